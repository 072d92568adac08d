/-
  The code of a function at the level of trees: operations one behind the other, branches, blocks, loops, the call itself.
  No condition: a library text; nothing of the program is named.
-/
import Derived.Test.YtegbonbgofjlcaaGreatMAB
import Derived.Maps.RangeRun
set_option maxHeartbeats 8000000
namespace Go.Vx
open Go
theorem Ext.iL{I:St}{J:alY}{i:Nat}{o0:Ob}(hi:I[i]?=some o0)(h1:∀n s,o0≠.app n s)(h2:∀r s,o0≠.cv r s)(h3:o0≠.dead)(o:Ob):Ext I J (I.set i o) J:=by refine⟨sM,(by grind),(by grind),(by grind)⟩;all_goals grind
section
variable{c:Ctx}{w:World}{L:Nat->Nat}{I:St}{J:alY}
theorem Mem.tX(h:Mem c w L I J)(ob:Go.Obj)(o:Ob)(ho:Le w L (w.alloc ob) L->Ext I J (I++[o]) (J++[.pointer (some ⟨w.heap.size,0,none⟩)])->iy (w.alloc ob) L (I++[o]) (J++[.pointer (some ⟨w.heap.size,0,none⟩)]) o (.pointer (some ⟨w.heap.size,0,none⟩)))(hex:∀b,dt o (.pointer (some ⟨w.heap.size,0,none⟩))=some b->b=w.heap.size):Mem c (w.alloc ob) L (I++[o]) (J++[.pointer (some ⟨w.heap.size,0,none⟩)])/\Le w L (w.alloc ob) L:=by
 have h1:=h.alloc ob 0;rw[Kx h]at h1;refine⟨h1.1.push _ _ (ho h1.2 (Ext.push I J h.len _ _)) ?_ ?_,h1.2⟩;.intro i o' x' b hi hx hb e;have h2:=(h.dE i o' x' hi hx).fh hb;grind
 .intro b hb;rw[hex b hb];exact .inl h.size
theorem Mem.kA(h:Mem c w L I J){i b:Nat}{o0 o:Ob}(hi:I[i]?=some o0)(dD:J[i]?=some (.pointer (some ⟨b,0,none⟩)))(aa:dt o0 (.pointer (some ⟨b,0,none⟩))=some b)(h0:L b=0)(ob:Go.Obj)(ae:Ext I J (I.set i o) J)(hex:∀k,dt o (.pointer (some ⟨b,0,none⟩))=some k->k=b)(cZ:Le w L (yG w b ob) L->iy (yG w b ob) L (I.set i o) J o (.pointer (some ⟨b,0,none⟩))):Mem c (yG w b ob) L (I.set i o) J/\Le w L (yG w b ob) L:=by
 have hle:Le w L (yG w b ob) L:=by refine⟨om,λk o ho=>Ei (vG w b k _ λq=>?_) o⟩;grind
 refine⟨?_,hle⟩;have af:=yP J i _ dD;have key:=h.ft (w':=yG w b ob) (L':=L) i o (.pointer (some ⟨b,0,none⟩)) hle (by grind) (λk=>k=b) (λj o' x' k hj ab ad hk e=>by subst e;exact h.apart j i o' _ x' _ k hj ab ad hi dD hk aa) (λk e=>by subst e;exact h.gA i _ _ k hi dD aa) (λk hk=>⟨vG w b k _ hk,rfl⟩) (by simp[yG]) rfl rfl rfl h.lim (by grind) om;grind
end
theorem bP.nX{U J:Type}{R:U->J->Prop}:∀{l:List U}{m:List J}{b:J},bP R l m->b∈m->∃a∈l,R a b
 |a::l,b'::m,b,h,hb=>by
  rcases Af.1 hb with rfl|hb;.exact⟨a,sM,h.1⟩
  .obtain⟨a',ha,r⟩:=bP.nX h.2 hb;grind|[],[],_,_,hb=>by grind|[],_::_,_,h,_=>h.elim|_::_,[],_,h,_=>h.elim
section
variable{P:Program}{c:Ctx}{nt:Nat}{e:Env}{I:St}{a:Act}{w:World}{L:Nat->Nat}{J:alY}{o:Oper}
variable{x:Value}{dst:Option Tmp}{ty:TypeId}{eK:Array Edge}{g:Option (Nat×Bool)}{p:V}{kt:TypeId}{t:TypeId}{y:Value}{k:Pk}{dZ:List V}
theorem Gm{v:V}(r:dP w L I J v x)(h:nU v):eI w L I J v x:=by cases v<;>first|exact r|simp[nU]at h
def kb:TypeDesc->Option Pk |.bool=>some .b|.int k=>some (.i k)|.string=>some .s|_=>none
inductive Kk where|one(k:Pk)|st(ks:List Pk)
def Gn(P:Program):Nat->List Field->Option (List Pk) |_,[]=>some []|i,f::fs=>if f.name≠"_"/\f.offset=i/\cQ P f.type=some false then((P.underlying f.type).bind kb).bind λk=>(Gn P (i+1) fs).map (k::·)else none
def BE(P:Program)(kt:TypeId):Option Kk:=match P.underlying kt with |some (.struct fs)=>(Gn P 0 fs.toList).bind λks=>if xt P 10 kt=some ks then some (.st ks)else none|some d=>(kb d).map .one|none=>none
def KI(P:Program)(t:TypeId):Option V:=match(P.info? t).bind (·.zero)with |some (.agg cs)=>if cs.all (·.oneCell')=true then some (.agg (cs.toList.map jE))else none|some v=>if v.oneCell'=true then some (jE v)else none|none=>none
def gU(P:Program)(t:TypeId):Option (Kk×V):=match P.underlying t with |some (.map kt et)=>(BE P kt).bind λk=>(KI P et).map λz=>(k,z)|_=>none
theorem wf7{z:V}(h:KI P t=some z):∃i zv,P.info? t=some i/\i.zero=some zv/\nU z=true/\∀(w:World) L I J,eI w L I J z zv:=by unfold KI at h;cases hi:P.info? t with |none=>grind|some i=>cases hz:i.zero with |none=>grind|some zv=>
   simp only[hi,hz,Av]at h;refine⟨i,zv,rfl,hz,?_⟩;split at h
   .rename_i cs aa;cases aa;split at h;.rename_i ha;simp only[alu]at h;subst h;refine⟨rfl,λw L I J=>⟨cs.toList,sM,(NJ λv hv=>?_).imp λ_ _=>dy.dJ⟩⟩;exact Cl.1 ha v (by grind)
    grind
   .rename_i v ab hv;cases hv;split at h;.rename_i h1;simp only[alu]at h;subst h;have hc:AQ (jE zv):=(H4 (w:=default) (L:=λ_=>0) zv h1).2;refine⟨?_,(by grind[eI.dX,dy.dJ,H4])⟩;revert hc;generalize jE zv=q0;cases q0<;>simp[AQ,nU]
    grind
   grind
theorem Ii{k:Kk}{z:V}(h:gU P t=some (k,z)):∃kt et i zv,P.underlying t=some (.map kt et)/\BE P kt=some k/\P.info? et=some i/\i.zero=some zv/\nU z=true/\∀(w:World) L I J,eI w L I J z zv:=by
 unfold gU at h;split at h;.rename_i kt et hu;cases hk:BE P kt with|none=>grind|some k'=>cases hz:KI P et with|none=>grind|some z'=>simp only[hk,hz,Av,Bf,alu,alD]at h;obtain⟨rfl,rfl⟩:=h;grind[wf7]
 grind
def mC:Pk->V->Bool |.b,.bool _=>true|.i k,.int k' _=>decide (k'=k)|.s,.str _=>true|_,_=>false
def lZ:List Pk->List V->Bool|[],[]=>true|k::ks,v::vs=>mC k v&&lZ ks vs|_,_=>false
def nH:Kk->V->Bool|.one k,v=>mC k v|.st ks,.agg vs=>lZ ks vs|_,_=>false
theorem BF{d:TypeDesc}{v:V}(hk:kb d=some k)(h:mC k v)(r:dP w L I J v x):MapKept.IsKey d x:=by
 cases k<;>cases v<;>simp[mC]at h;.rw[qQ r];cases d<;>simp[kb]at hk<;>trivial
 .rw[yQ r];cases d<;>simp[kb]at hk;subst hk;exact h
 .rw[lU r];cases d<;>simp[kb]at hk<;>trivial
theorem Sg(em:Bool)(xs:alY)(w:World):∀(fs:List Field)(i:Nat)(ks:List Pk)(vs:List V),Gn P i fs=some ks->lZ ks vs=true->bP (dy w L I J) vs (xs.drop i)->∀f∈fs,f.name≠"_"/\∃x,(part f.type xs.toArray f.offset).run P w=.ok x w/\(Instr.checkKey em 9999 f.type x).run P w=.ok () w
 |[],_,_,_,_,_,_,_,hf=>by cases hf|f::fs,i,ks,vs,h,NP,ha,f',NQ=>by
  unfold Gn at h;split at h;.rename_i hc;obtain⟨h1,h2,h3⟩:=hc;cases hu:P.underlying f.type with|none=>grind|some d=>cases hk:kb d with|none=>grind|some k=>simp only[hu,hk,Av,As]at h;obtain⟨ks',h4,rfl⟩:=h;cases vs with|nil=>trivial|cons v vs=>
      simp only[lZ,Aa]at NP;have hlen:=ha.length;have Sh:i<xs.length:=by grind
      rw[A4 Sh]at ha;rcases Af.1 NQ with rfl|NQ
      .have hp:(part f'.type xs.toArray f'.offset).run P w=.ok xs[i] w:=by simp_all[part,vH]
       exact⟨h1,_,hp,MapKept.run_checkKey (P:=P) (w:=w) hu (BF hk NP.1 (dP.dX ha.1)) em 9998⟩
      .exact Sg em xs w fs (i+1) ks' vs h4 NP.2 ha.2 f' NQ
  grind
theorem Ij{kk:Kk}(hk:BE P kt=some kk)(aa:nH kk p)(hx:dP w L I J p x)(em:Bool):(Instr.checkKey em 10000 kt x).run P w=.ok () w:=by
 unfold BE at hk;split at hk;.rename_i fs hu;cases hf:Gn P 0 fs.toList with |none=>grind|some ks=>
   simp only[hf,Av]at hk;split at hk;.simp only[alu]at hk;subst hk;cases p<;>simp[nH]at aa;obtain⟨xs,rfl,ha⟩:=hx;have each:=Sg (P:=P) em xs w fs.toList 0 ks _ hf aa ha;rw[show(10000:Nat)=9999+1from rfl,Instr.checkKey];simp only[Sem.run_bind,run_underlying hu,Result.andThen_ok];rw[<-Array.forIn_toList];clear hf hu;generalize fs.toList=M at each;induction M with |nil=>simp|cons f M ih=>obtain⟨hn,x,p1,p2⟩:=each f sM;simp_all
   grind
 .rename_i d ab hu;cases hd:kb d with |none=>grind|some k=>simp only[hd,Bf,alu]at hk;subst hk;exact MapKept.run_checkKey hu (BF hd aa hx) em 9999
 grind
def lf:Kk->V->V->Option Bool|.one k,x,y=>ka k x y|.st ks,.agg x,.agg y=>lV ks x y|_,_,_=>none
def pe(k:Kk)(x:V):List V->Nat->Option (Option (Nat×V)) |kk::vv::rest,i=>(match lf k x kk with |some true=>some (some (i,vv))|some false=>pe k x rest (i+1)|none=>none)|[],_=>some none|[_],_=>none
theorem Si{d:TypeDesc}{v:V}{r:Bool}(hk:kb d=some k)(hx:dP w L I J p x)(hy:dP w L I J v y)(h:ka k p v=some r):Instr.sameNow d x y=some r:=by
 cases k;.cases p<;>cases v<;>simp[ka]at h;subst h;rw[qQ hx,qQ hy];cases d<;>simp[kb]at hk;rfl
 .cases p<;>cases v<;>simp[ka]at h;obtain⟨⟨rfl,rfl⟩,rfl⟩:=h;rw[yQ hx,yQ hy];cases d<;>simp[kb]at hk;simp[Instr.sameNow]
 .cases p<;>cases v<;>simp[ka]at h;subst h;rename_i s1 s2;rw[lU hx,lU hy];cases d<;>simp[kb]at hk;simp only[Instr.sameNow,alu];have e1:((⟨s1.toArray⟩:ByteArray)==⟨s2.toArray⟩)=(s1.toArray==s2.toArray):=rfl;grind
theorem NR{k:Kk}{p:V}(M:List MapEntry->Nat->Option (Nat×Value)->Prop)(h0:∀i,M [] i none)(hT:∀v(e:MapEntry) es i,eI w L I J v e.key->lf k p v=some true->M (e::es) i (some (i,e.val)))(hF:∀v(e:MapEntry) es i r,eI w L I J v e.key->lf k p v=some false->M es (i+1) r->M (e::es) i r):∀(dZ:List V)(es:List MapEntry)(i:Nat)(q:Option (Nat×V)),bP (eI w L I J) dZ (es.flatMap λe=>[e.key,e.val])->pe k p dZ i=some q->(q=none/\M es i none)\/∃(j:Nat)(v:V)(e:MapEntry),q=some (i+j,v)/\M es i (some (i+j,e.val))/\es[j]?=some e/\dZ[2*j+1]?=some v/\eI w L I J v e.val/\(∃kk,dZ[2*j]?=some kk/\lf k p kk=some true)
 |[],[],i,q,_,h=>by grind[pe]|[],e::es,_,_,ha,_=>by trivial|[_],[],_,_,ha,_=>by trivial|[_],e::es,_,_,_,h=>by trivial|_::_::_,[],_,_,ha,_=>by trivial|kk::vv::dZ,e::es,i,q,ha,h=>by
  simp only[Br,Bk,Cc,bP]at ha;obtain⟨h1,h2,h3⟩:=ha;rw[pe]at h;split at h;.rename_i he;simp only[alu]at h;exact .inr ⟨0,vv,e,h.symm,(by grind),rfl,rfl,h2,kk,rfl,he⟩
  .rename_i he;rcases NR M h0 hT hF dZ es (i+1) q h3 h with⟨e1,e2⟩|⟨j,v,e',e1,e2,e3,e4,e5,aa,e6,e7⟩;.grind
   .rw[show i+1+j=i+(j+1)by omega]at e1 e2;refine .inr ⟨j+1,v,e',e1,(by grind),by grind,?_,e5,aa,?_,e7⟩;all_goals grind
  grind
theorem Sj{fs:Array Field}{es:List MapEntry}{r:Option (Nat×Value)}(hu:P.underlying kt=some (.struct fs))(h:(Instr.findAsking kt x es 0).run P w=.ok r w):(Instr.findKey kt x es).run P w=.ok r w:=by cases es<;>simp_all[Instr.findAsking,Instr.findKey,run_underlying,Instr.findNow,Instr.sameNow]
theorem BG{kk:Kk}(hk:BE P kt=some kk)(ab:nH kk p)(hx:dP w L I J p x){es:List MapEntry}{q:Option (Nat×V)}(ha:bP (eI w L I J) dZ (es.flatMap λe=>[e.key,e.val]))(hf:pe kk p dZ 0=some q):(q=none/\(Instr.findKey kt x es).run P w=.ok none w)\/∃(j:Nat)(v:V)(e:MapEntry),q=some (j,v)/\(Instr.findKey kt x es).run P w=.ok (some (j,e.val)) w/\es[j]?=some e/\dZ[2*j+1]?=some v/\eI w L I J v e.val/\(∃k',dZ[2*j]?=some k'/\lf kk p k'=some true):=by
 unfold BE at hk;split at hk;.rename_i fs hu;cases ad:Gn P 0 fs.toList with |none=>grind|some ks=>
   simp only[ad,Av]at hk;split at hk
   .rename_i ae;simp only[alu]at hk;subst hk;cases p<;>simp[nH]at ab;rename_i vs;obtain⟨xs,rfl,af⟩:=hx;have ai:∀(us:List V)(ys:alY),bP (dy w L I J) us ys->∀z∈ys,z.oneCell'=true:=λus ys h z hz=>by obtain⟨i,hi,rfl⟩:=Cm.1 hz;obtain⟨a,_,r⟩:=bP.nX h om;exact r.dS
    have aa:∀ys:am0,pJ P kt (.agg ys):=λys=>by unfold pJ;rw[alq (by unfold cQ;rw[hu];rfl)];simp
    have heq:∀(v:V)(y:Value)(r:Bool),eI w L I J v y->lf (.st ks) (.agg vs) v=some r->(Op.equal kt (.agg xs.toArray) y).run P w=.ok r w:=by intro v y r hr he;cases v<;>simp[lf]at he;rename_i us;obtain⟨ys,rfl,ah⟩:=hr;have aj:=NB ks vs us xs ys r af ah he;exact NC 10 kt ks ae 10000 om _ _ r (aa _) (aa _) (by grind[Value.cells]) (by grind[Value.cells]) (by simpa) w
    rcases NR (w:=w) (L:=L) (I:=I) (J:=J) (k:=.st ks) (p:=.agg vs) (λes i r=>(Instr.findAsking kt (.agg xs.toArray) es i).run P w=.ok r w) (by simp[Instr.findAsking]) (λv e es i h1 h2=>by simp[Instr.findAsking,heq v _ _ h1 h2]) (λv e es i r h1 h2 h3=>by simp[Instr.findAsking,heq v _ _ h1 h2,h3]) dZ es 0 q ha hf with⟨e1,e2⟩|⟨j,v,e',e1,e2,e3⟩;.grind[Sj]
    .rw[Ae]at e1 e2;grind[Sj]
   grind
 .rename_i d ak hu;cases hd:kb d with |none=>grind|some k=>
   simp only[hd,Bf,alu]at hk;subst hk;rcases NR (w:=w) (L:=L) (I:=I) (J:=J) (k:=.one k) (p:=p) (λes i r=>Instr.findNow d x es i=some r) (λi=>rfl) (λv e es i h1 h2=>by simp[Instr.findNow,Si hd hx (dP.lR h1) h2]) (λv e es i r h1 h2 h3=>by simp[Instr.findNow,Si hd hx (dP.lR h1) h2,h3]) dZ es 0 q ha hf with⟨e1,e2⟩|⟨j,v,e',e1,e2,e3⟩;.grind[MapKept.run_findKey]
   .rw[Ae]at e1 e2;grind[MapKept.run_findKey]
 grind
theorem Sk{v:V}(hx:dP w L I J p x)(hy:dP w L I J v y)(h:ka k p v=some true):x=y:=by
 cases k<;>cases p<;>cases v<;>simp[ka]at h;.rw[qQ hx,qQ hy,h]
 .obtain⟨⟨rfl,rfl⟩,rfl⟩:=h;rw[yQ hx,yQ hy]
 .rw[lU hx,lU hy,h]
theorem Sl:∀(ks:List Pk)(us vs:List V)(xs ys:alY),bP (dy w L I J) us xs->bP (dy w L I J) vs ys->lV ks us vs=some true->xs=ys
 |[],[],[],[],[],_,_,_=>rfl|k::ks,u'::us,v::vs,x::xs,y::ys,h1,h2,h=>by unfold lV at h;cases hk:ka k u' v with|none=>grind|some r0=>simp only[hk,Av,As]at h;obtain⟨r',h3,h4⟩:=h;simp only[Aa]at h4;obtain⟨rfl,rfl⟩:=h4;rw[Sk (dP.dX h1.1) (dP.dX h2.1) hk,Sl ks us vs xs ys h1.2 h2.2 h3]
 |[],[],[],[],_::_,_,h2,_=>h2.elim|[],[],[],_::_,_,h1,_,_=>h1.elim|[],[],_::_,_,_,_,_,h=>by cases h|[],_::_,_,_,_,_,_,h=>by cases h|_::_,[],_,_,_,_,_,h=>by cases h|_::_,_::_,[],_,_,_,_,h=>by cases h|_::_,_::_,_::_,[],_,h1,_,_=>h1.elim|_::_,_::_,_::_,_::_,[],_,h2,_=>h2.elim
theorem Sn{k:Kk}{v:V}(hx:dP w L I J p x)(hy:dP w L I J v y)(h:lf k p v=some true):x=y:=by cases k with|one k=>exact Sk hx hy h|st ks=>cases p<;>cases v<;>simp[lf]at h;obtain⟨xs,rfl,h1⟩:=hx;obtain⟨ys,rfl,h2⟩:=hy;grind[Sl]
theorem xD9{ks:List Pk}:∀{vs:List V}{xs:alY},lZ ks vs=true->bP (dy w L I J) vs xs->∀z∈xs,∃d,MapKept.IsKey d z:=by induction ks with
 |nil=>intro vs xs h ha;cases vs with
  |nil=>cases xs with|nil=>simp|cons _ _=>trivial
  |cons _ _=>trivial
 |cons k ks ih=>intro vs xs h ha z hz;cases vs with |nil=>trivial|cons v vs=>cases xs with|nil=>grind|cons x xs=>
    simp only[lZ,Aa]at h;rcases Af.1 hz with rfl|hz
    .have hr:=dP.dX (I:=I) (J:=J) ha.1;cases k;.exact⟨.bool,BF rfl h.1 hr⟩
     .exact⟨.int _,BF rfl h.1 hr⟩
     .exact⟨.string,BF rfl h.1 hr⟩
    .exact ih h.2 ha.2 z hz
theorem Sp{kk:Kk}(aa:nH kk p)(hx:dP w L I J p x):(Instr.keyThatStays x x).run P w=.ok x w:=by cases kk with
 |one k=>
  cases k;.exact MapKept.run_keyThatStays (BF (d:=.bool) rfl aa hx)
  .exact MapKept.run_keyThatStays (BF (d:=.int _) rfl aa hx)
  .exact MapKept.run_keyThatStays (BF (d:=.string) rfl aa hx)|st ks=>
  cases p<;>simp[nH]at aa;obtain⟨xs,rfl,ha⟩:=hx;have hs:Instr.sameBits 10000 (.agg xs.toArray) (.agg xs.toArray):=by show Instr.sameBits (9999+1) (.agg xs.toArray) (.agg xs.toArray)=true;simp only[Instr.sameBits,beq_self_eq_true,Ba,Am];rintro⟨a,b⟩hp;obtain⟨i,hi,e⟩:=Cm.1 hp;simp only[List.getElem_zip,alD]at e;obtain⟨rfl,rfl⟩:=e;grind[xD9,A9,MapKept.sameBits_self]
  simp_all[Instr.keyThatStays]
def BH(I:St)(m:Bool)(r:Option V):R:=match m,r with |_,none=>.st (.mp I.length) (I++[.mp [] [] 0])|true,some (.int _ _)=>.st (.mp I.length) (I++[.mp [] [] 0])|_,_=>.fail
def nY(P:Program)(t:TypeId):Bool:=match P.underlying t with|some (.map _ _)=>true|_=>false
theorem wl7(h:Mem c w L I J):Mem c (w.alloc (.map #[] 0)) L (I++[.mp [] [] 0]) (J++[.pointer (some ⟨w.heap.size,0,none⟩)])/\Le w L (w.alloc (.map #[] 0)) L:=h.tX _ _ (λhle _=>⟨w.heap.size,#[],rfl,yM _ _,by have:=h.lim _ (A7 _);omega,by trivial,rfl⟩) (by grind[dt])
theorem xk3{pos:String}(t:TypeId)(r:Option Operand)(h:ez c nt e I a w L J):fG (BH I (nY P t) (r.map (zI e))) I (bT P c ⟨dst,.makeMap t r,ty,pos,eK,g⟩ a w L I J):=by have aa:=wl7 h.mem;have ab:dP (w.alloc (.map #[] 0)) L (I++[.mp [] [] 0]) (J++[.pointer (some ⟨w.heap.size,0,none⟩)]) (.mp I.length) (.map (some w.heap.size)):=⟨w.heap.size,by rw[<-h.mem.len];simp,rfl⟩;cases r with|none=>exact⟨_,_,L,_,(by simp[execOp,Instr.makeMap]),aa.1,aa.2,Ext.push I J h.mem.len _ _,ab⟩|some p=>
  have hp:=h.eval p;simp only[Bf];unfold BH;split;.grind
  .rename_i k n hm hq;simp only[alu]at hq;rw[hq]at hp;have hp:=yQ hp;unfold nY at hm;split at hm;.rename_i kt et hu;exact⟨_,_,L,_,(by simp_all[execOp,Instr.makeMap,run_underlying,asInt,asIntOf]),aa.1,aa.2,Ext.push I J h.mem.len _ _,ab⟩
   grind
  trivial
def wI(m:Option (Kk×V))(I:St)(x k:V)(ok:Bool):R:=match m with |some (kd,z)=>if nH kd k=true then(match x with |.mp id=>(match I[id]?with
   |some (.mp dZ _ _)=>(match pe kd k dZ 0with |some (some (_,v))=>.ok (if ok then .cC [v,.bool true]else v)|some none=>.ok (if ok then .cC [z,.bool false]else z)|none=>.fail)|_=>.fail)|.raw (.map none)=>.ok (if ok then .cC [z,.bool false]else z)|_=>.fail)else .fail|none=>.fail
theorem Et{id:Nat}(r:dP w L I J (.mp id) x):∃b,J[id]?=some (.pointer (some ⟨b,0,none⟩))/\x=.map (some b):=r
theorem KJ(r:dP w L I J (.raw (.map none)) x):x=.map none:=by have r':cM w L (.raw (.map none)) x:=r;cases r';rfl
theorem NS{v:V}(b:Bool)(r:eI w L I J v x)(ok:Bool):dP w L I J (if ok then .cC [v,.bool b]else v) (if ok then .tuple #[x,.bool b]else x):=by
 cases ok;.grind[dP.lR]
 .exact⟨[x,.bool b],rfl,r,eI.dX (dy.dJ (.bool b)),tV⟩
theorem xG7{pos:String}(t:TypeId)(x k:Operand)(ok:Bool)(h:ez c nt e I a w L J):fG (wI (gU P t) I (zI e x) (zI e k) ok) I (bT P c ⟨dst,.lookup t x k ok,ty,pos,eK,g⟩ a w L I J):=by
 have hx:=h.eval x;have hk:=h.eval k;unfold wI;split
 .rename_i kd z hm;obtain⟨kt,et,i,zv,hu,ad,hi,hz,ai,aj⟩:=Ii hm;split
  .rename_i ae;have af:∀em,(Instr.checkKey em 10000 kt (a.eval k)).run P w=.ok () w:=(by grind[Ij]);have ah:(zeroValue et).run P w=.ok zv w:=by simp_all[zeroValue,typeInfo]
   split
   .rename_i id hid;rw[hid]at hx;obtain⟨b,dD,hv⟩:=Et hx;split
    .rename_i dZ bs dm cP;obtain⟨b',es,e1,hh,hl,aa,ak⟩:=h.mem.dE _ _ _ cP dD;cases e1;have aa:bP (eI w L I J) dZ (es.toList.flatMap λe=>[e.key,e.val]):=aa;split
     .rename_i i0 v hf;rcases BG ad ae hk aa hf with⟨e1,_⟩|⟨j,v',e',e1,e2,_,_,e5,_⟩;.cases e1
      .cases e1;refine bT.pure h (x:=if ok then .tuple #[e'.val,.bool true]else e'.val) ?_ (NS true e5 ok);have ab:=e2;simp[execOp,Instr.lookup,run_underlying hu,hv,MapKept.run_getObj_map hh,af,ab]
     .rename_i hf;rcases BG ad ae hk aa hf with⟨_,e2⟩|⟨j,v',e',e1,_⟩;.refine bT.pure h (x:=if ok then .tuple #[zv,.bool false]else zv) ?_ (by simp_all[NS]);have ab:=e2;simp[execOp,Instr.lookup,run_underlying hu,hv,MapKept.run_getObj_map hh,af,ab,ah]
      grind
     trivial
    trivial
   .rename_i hid;rw[hid]at hx;have hv:=KJ hx;refine bT.pure h (x:=if ok then .tuple #[zv,.bool false]else zv) ?_ (by simp_all[NS]);have ab:(Instr.findKey kt (a.eval k) []).run P w=.ok none w:=by rcases BG (es:=[]) ad ae hk (show bP (eI w L I J) [] _ from trivial) rfl with⟨_,e2⟩|⟨j,v',e',e1,_⟩;all_goals grind
    simp_all[execOp,Instr.lookup,run_underlying]
   trivial
  trivial
 trivial
def rE(dZ:List V)(i:Nat)(k v:V):List V:=(dZ.set (2*i) k).set (2*i+1) v
theorem Eu(l:List MapEntry):∀(i:Nat),(l.flatMap λe=>[e.key,e.val])[2*i]?=(l[i]?).map (·.key)/\(l.flatMap λe=>[e.key,e.val])[2*i+1]?=(l[i]?).map (·.val):=by induction l with|nil=>simp|cons e l ih=>intro i;cases i with|zero=>simp|succ i=>grind
theorem NT(l:List MapEntry):(l.flatMap λe=>[e.key,e.val]).length=2*l.length:=by induction l<;>grind
theorem Sq{es:Array MapEntry}{i:Nat}{k v:V}(h:bP (eI w L I J) dZ (qM es))(hk:eI w L I J k x)(hv:eI w L I J v y)(hi:i<es.size):bP (eI w L I J) (rE dZ i k v) (qM (es.modify i λe=>{e with key:=x,val:=y})):=by
 have hl:=h.length;unfold qM at h hl⊢;rw[NT]at hl;simp only[Cv]at hl;refine bP.of ?_ λj p q hp hq=>?_;.grind[rE,NT]
 .unfold rE at hp;obtain⟨m,hm⟩:∃m,j=2*m\/j=2*m+1:=⟨j/2,om⟩;rcases hm with rfl|rfl
  .rw[(Eu _ m).1]at hq;rw[Dd om]at hp;rw[Ao,Array.getElem?_modify]at hq;by_cases e1:i=m;.grind
   .rw[alp e1]at hq;rw[Dd om]at hp;obtain⟨y',aa,r⟩:=h.get _ _ hp;grind[Eu]
  .rw[(Eu _ m).2]at hq;rw[Ao,Array.getElem?_modify]at hq;by_cases e1:i=m;.grind
   .rw[alp e1]at hq;rw[Dd om,Dd om]at hp;obtain⟨y',aa,r⟩:=h.get _ _ hp;rw[(Eu _ m).2,Ao]at aa;grind
theorem Sr(es:Array MapEntry)(i:Nat)(x y:Value):(es.modify i λe=>{e with key:=x,val:=y}).toList.map (·.born)=es.toList.map (·.born):=by apply Bi;grind
def wC(m:Option (Kk×V))(I:St)(x k v:V):R:=match m,x with |some (kd,_),.mp id=>if nH kd k=true/\nU v=true then(match I[id]?with |some (.mp dZ bs dm)=>(match pe kd k dZ 0with |some (some (i,_))=>.st .u (I.set id (.mp (rE dZ i k v) bs dm))|some none=>.st .u (I.set id (.mp (dZ++[k,v]) (bs++[dm]) (dm+1)))|none=>.fail)|_=>.fail)else .fail|_,_=>.fail
theorem Ss{k:Kk}{v:V}(h:nH k v):nU v=true:=by cases k with
 |one k=>cases k<;>cases v<;>first|rfl|simp[nH,mC]at h
 |st ks=>cases v<;>first|rfl|simp[nH]at h
theorem Su{k v:Value}{et:TypeId}{kd:Kk}{bs:alX}{dm id:Nat}{kv vv:V}(hm:Mem c w L I J)(hu:P.underlying t=some (.map kt et))(aj:BE P kt=some kd)(hx:dP w L I J (.mp id) x)(af:nH kd kv)(hk:dP w L I J kv k)(hv:eI w L I J vv v)(cP:I[id]?=some (.mp dZ bs dm)){q:Option (Nat×V)}(hf:pe kd kv dZ 0=some q):∃w',(Instr.mapUpdate t x k v).run P w=.ok () w'/\Le w L w' L/\(match q with |some (i,_)=>Mem c w' L (I.set id (.mp (rE dZ i kv vv) bs dm)) J/\Ext I J (I.set id (.mp (rE dZ i kv vv) bs dm)) J|none=>Mem c w' L (I.set id (.mp (dZ++[kv,vv]) (bs++[dm]) (dm+1))) J/\Ext I J (I.set id (.mp (dZ++[kv,vv]) (bs++[dm]) (dm+1))) J):=by
 have ak:eI w L I J kv k:=Gm hk (Ss af);have ah:∀em,(Instr.checkKey em 10000 kt k).run P w=.ok () w:=(by grind[Ij]);obtain⟨b,dD,rfl⟩:=Et hx;obtain⟨b',es,e1,hh,hl,aa,ao⟩:=hm.dE _ _ _ cP dD;cases e1;have ai:b<w.heap.size:=(by grind);have ad:∀o,Ext I J (I.set id o) J:=(by simp_all[Ext.iL]);have ae:∀ob:Go.Obj,(setObj b ob).run P w=.ok () (yG w b ob):=λob=>by rw[MapKept.run_setObj_map ob hh];rfl
 rcases BG aj af hk aa hf with⟨rfl,e2⟩|⟨j,v',e',rfl,e2,e3,_,_,kk,e6,e7⟩
 .have ab:=e2;refine⟨yG w b (.map (es.push {key:=k,val:=v,born:=dm}) (dm+1)),?_,?_⟩;.simp[Instr.mapUpdate,run_underlying hu,MapKept.run_getObj_map hh,ah,ab,ae]
  .have key:=hm.kA (o:=.mp (dZ++[kv,vv]) (bs++[dm]) (dm+1)) cP dD rfl hl (.map (es.push {key:=k,val:=v,born:=dm}) (dm+1)) (ad _) (by grind[dt]) λhle=>by
    refine⟨b,_,rfl,xL _ _ _ ai,hl,?_,by grind⟩;have:bP (eI w L I J) (dZ++[kv,vv]) (qM (es.push {key:=k,val:=v,born:=dm})):=by simp only[qM,Array.toList_push,alN];exact bP.append aa (by trivial)
    exact this.imp (by grind[eI.mono])
   grind
 .have ab:=e2;have hj:es[j]?=some e':=by grind
  have al:j<es.size:=(by grind);have an:e'.key=k:=by obtain⟨y,hy,r⟩:=aa.get _ _ e6;unfold qM at hy;rw[(Eu _ j).1,e3]at hy;simp at hy;subst hy;exact(Sn hk (dP.lR r) e7).symm
  refine⟨yG w b (.map (es.modify j λe=>{e with key:=k,val:=v}) dm),?_,?_⟩;.simp[Instr.mapUpdate,run_underlying hu,MapKept.run_getObj_map hh,ah,ab,ae,hj,an,Sp af hk]
  .have key:=hm.kA (o:=.mp (rE dZ j kv vv) bs dm) cP dD rfl hl (.map (es.modify j λe=>{e with key:=k,val:=v}) dm) (ad _) (by grind[dt]) λhle=>by refine⟨b,_,rfl,xL _ _ _ ai,hl,(Sq aa ak hv al).imp (by grind[eI.mono]),by rw[Sr];omega⟩
   grind
theorem Sv{o:Oper}(t:TypeId)(x k v:Operand)(h:ez c nt e I a w L J)(ho:execOp a.eval o=(do Instr.mapUpdate t (a.eval x) (a.eval k) (a.eval v);pure .skip)):fG (wC (gU P t) I (zI e x) (zI e k) (zI e v)) I (bT P c o a w L I J):=by
 have hx:=h.eval x;have hk:=h.eval k;have hv:=h.eval v;unfold wC;split
 .rename_i kd z id hm hid;obtain⟨kt,et,i,zv,hu,ad,_⟩:=Ii hm;rw[hid]at hx;split
  .rename_i hc;split
   .rename_i dZ bs dm cP;split;.rename_i i0 v0 hf;obtain⟨w',ae,hle,ab,aa⟩:=Su h.mem hu ad hx hc.1 hk (Gm hv hc.2) cP hf;exact⟨undef,w',L,J,(by simp_all),ab,hle,aa,tV⟩
    .rename_i hf;obtain⟨w',ae,hle,ab,aa⟩:=Su h.mem hu ad hx hc.1 hk (Gm hv hc.2) cP hf;exact⟨undef,w',L,J,(by simp_all),ab,hle,aa,tV⟩
    trivial
   trivial
  trivial
 trivial
theorem yI2{pos:String}(t:TypeId)(x k v:Operand)(h:ez c nt e I a w L J):fG (wC (gU P t) I (zI e x) (zI e k) (zI e v)) I (bT P c ⟨dst,.mapUpdate t x k v,ty,pos,eK,g⟩ a w L I J):=Sv t x k v h rfl
theorem xG5{pos:String}(t:TypeId)(x k v:Operand)(h:ez c nt e I a w L J):fG (wC (gU P t) I (zI e x) (zI e k) (zI e v)) I (bT P c ⟨dst,.insert t x k v,ty,pos,eK,g⟩ a w L I J):=Sv t x k v h rfl
theorem Sw{U J:Type}(f:U->J):∀(l:List U)(i:Nat),(l.eraseIdx i).map f=(l.map f).eraseIdx i|[],_=>rfl|_::_,0=>rfl|x::l,i+1=>by simp[Sw f l i]
def BI(dZ:List V)(i:Nat):List V:=dZ.take (2*i)++dZ.drop (2*i+2)
def BJ(m:Option (Kk×V))(I:St)(x k:V):R:=match m,x with |some (kd,_),.mp id=>if nH kd k=true then(match I[id]?with |some (.mp dZ bs dm)=>(match pe kd k dZ 0with |some (some (i,_))=>.st (.cC []) (I.set id (.mp (BI dZ i) (bs.eraseIdx i) dm))|some none=>.st (.cC []) (I.set id (.mp dZ bs dm))|none=>.fail)|_=>.fail)else .fail|some (kd,_),.raw (.map none)=>if nH kd k=true then .ok (.cC [])else .fail|_,_=>.fail
theorem xh6(l:List MapEntry):∀(i:Nat),i<l.length->(l.eraseIdx i).flatMap (λe=>[e.key,e.val])=(l.flatMap λe=>[e.key,e.val]).take (2*i)++(l.flatMap λe=>[e.key,e.val]).drop (2*i+2):=by induction l with |nil=>simp|cons e l ih=>intro i h;cases i<;>grind
theorem xG4{pos:String}(t t':TypeId)(x k:Operand)(h:ez c nt e I a w L J):fG (BJ (gU P t) I (zI e x) (zI e k)) I (bT P c ⟨dst,.call ⟨.builtin .delete,#[x,k],#[t,t']⟩,ty,pos,eK,g⟩ a w L I J):=by
 have hx:=h.eval x;have hk:=h.eval k;unfold BJ;split
 .rename_i kd z id hm hid;obtain⟨kt,et,i,zv,hu,ah,_⟩:=Ii hm;rw[hid]at hx;split
  .rename_i ai;have aj:∀em,(Instr.checkKey em 10000 kt (a.eval k)).run P w=.ok () w:=(by grind[Ij]);obtain⟨b,dD,hv⟩:=Et hx;split
   .rename_i dZ bs dm cP;obtain⟨b',es,e1,hh,hl,aa,al⟩:=h.mem.dE _ _ _ cP dD;cases e1;have ak:b<w.heap.size:=(by grind);have ab:∀o,Ext I J (I.set id o) J:=(by simp_all[Ext.iL]);have af:∀ob:Go.Obj,(setObj b ob).run P w=.ok () (yG w b ob):=λob=>by rw[MapKept.run_setObj_map ob hh];rfl
    split
    .rename_i i0 v0 hf;rcases BG ah ai hk aa hf with⟨e1,_⟩|⟨j,v',e',e1,e2,e3,_,_,kk,e6,e7⟩;.cases e1
     .cases e1;have ad:=e2;have an:i0<es.toList.length:=(by grind);have ao:i0<es.size:=om;have ae:(es.eraseIdxIfInBounds i0).toList=es.toList.eraseIdx i0:=by simp
      have key:=h.mem.kA (o:=.mp (BI dZ i0) (bs.eraseIdx i0) dm) cP dD rfl hl (.map (es.eraseIdxIfInBounds i0) dm) (ab _) (by grind[dt]) λhle=>by
       refine⟨b,_,rfl,xL _ _ _ ak,hl,?_,by grind[Sw]⟩;have:bP (eI w L I J) (BI dZ i0) (qM (es.eraseIdxIfInBounds i0)):=by unfold qM BI;rw[ae,xh6 _ _ an];exact(bP.take _ aa).append (bP.drop _ aa)
       exact this.imp (by grind[eI.mono])
      refine⟨.tuple #[],_,L,J,.inl ?_,key.1,key.2,ab _,[],rfl,tV⟩;simp[execOp,resolve,invoke,builtin,Builtin.delete_,run_underlying hu,hv,MapKept.run_getObj_map hh,aj,ad,af]
    .rename_i hf;rcases BG ah ai hk aa hf with⟨_,e2⟩|⟨j,v',e',e1,_⟩
     .have ad:=e2;have key:=h.mem.kA (o:=.mp dZ bs dm) cP dD rfl hl (.map es dm) (ab _) (by grind[dt]) λhle=>by exact⟨b,_,rfl,xL _ _ _ ak,hl,aa.imp (by grind[eI.mono]),al⟩
      refine⟨.tuple #[],_,L,J,.inl ?_,key.1,key.2,ab _,[],rfl,tV⟩;simp[execOp,resolve,invoke,builtin,Builtin.delete_,run_underlying hu,hv,MapKept.run_getObj_map hh,aj,ad,af]
     grind
    trivial
   trivial
  trivial
 .rename_i kd z hm hid;obtain⟨kt,et,i,zv,hu,ah,_⟩:=Ii hm;rw[hid]at hx;have hv:=KJ hx;split;.rename_i ai;have aj:∀em,(Instr.checkKey em 10000 kt (a.eval k)).run P w=.ok () w:=(by grind[Ij]);refine bT.pure h (x:=.tuple #[]) ?_ ⟨[],rfl,tV⟩;simp_all[execOp,resolve,invoke,builtin,Builtin.delete_,run_underlying]
  trivial
 trivial
theorem KK{et:TypeId}(hb:P.underlying t=some (.map kt et))(m:am2)(w:World):(Op.equal t (.map m) (.map none)).run P w=.ok m.isNone w:=by
 have key:∀d,(Op.equalIn (d+1) t (.map m) (.map none)).run P w=.ok m.isNone w:=λd=>by cases m<;>simp[Op.equalIn,run_underlying hb]
 exact key 9999
def sY:Operand->Bool |.const (.map none)=>true|_=>false
def BK(op:BinOp)(m:Bool)(x:V):R:=match m,x with |true,.mp _=>(match op with|.eql=>.ok (.bool false)|.neq=>.ok (.bool true)|_=>.fail)|true,.raw (.map none)=>(match op with|.eql=>.ok (.bool true)|.neq=>.ok (.bool false)|_=>.fail)|_,_=>.fail
theorem xG8{pos:String}(op:BinOp)(t t':TypeId)(x y:Operand)(hy:sY y)(h:ez c nt e I a w L J):fG (BK op (nY P t) (zI e x)) I (bT P c ⟨dst,.binOp op t x y t',ty,pos,eK,g⟩ a w L I J):=by
 have hx:=h.eval x;have aa:a.eval y=.map none:=by unfold sY at hy;split at hy;all_goals trivial
 unfold BK;split
 .rename_i id hm hid;unfold nY at hm;split at hm
  .rename_i kt et hu;rw[hid]at hx;obtain⟨b,dD,hv⟩:=Et hx;split;.refine bT.pure h (x:=.bool false) ?_ (cM.bool _);simp[execOp,eqGuard,binOp,KK hu,hv,aa]
   .refine bT.pure h (x:=.bool true) ?_ (cM.bool _);simp[execOp,eqGuard,binOp,KK hu,hv,aa]
   trivial
  grind
 .rename_i hm hid;unfold nY at hm;split at hm
  .rename_i kt et hu;rw[hid]at hx;have hv:=KJ hx;split;.refine bT.pure h (x:=.bool true) ?_ (cM.bool _);simp[execOp,eqGuard,binOp,KK hu,hv,aa]
   .refine bT.pure h (x:=.bool false) ?_ (cM.bool _);simp[execOp,eqGuard,binOp,KK hu,hv,aa]
   trivial
  grind
 trivial
def BM(m:Bool)(I:St)(x:V):R:=match m,x with |true,.mp id=>(match I[id]?with|some (.mp _ _ dm)=>.st (.ptr I.length 0) (I++[.it (some id) dm [] dm])|_=>.fail)|true,.raw (.map none)=>.st (.ptr I.length 0) (I++[.it none 0 [] 0])|_,_=>.fail
theorem xX4{pos:String}(t:TypeId)(x:Operand)(h:ez c nt e I a w L J):fG (BM (nY P t) I (zI e x)) I (bT P c ⟨dst,.range t x,ty,pos,eK,g⟩ a w L I J):=by
 have hx:=h.eval x;have rd:∀(o:Ob)(w':World),dP w' L (I++[o]) (J++[.pointer (some ⟨w.heap.size,0,none⟩)]) (.ptr I.length 0) (.pointer (some ⟨w.heap.size,0,none⟩)):=λo w'=>⟨w.heap.size,by rw[<-h.mem.len];simp,rfl⟩;unfold BM;split
 .rename_i id hm hid;unfold nY at hm;split at hm
  .rename_i kt et hu;rw[hid]at hx;obtain⟨b,dD,hv⟩:=Et hx;split;.rename_i dZ bs dm cP;obtain⟨b',es,e1,hh,hl,ad,ae⟩:=h.mem.dE _ _ _ cP dD;cases e1;have key:=h.mem.tX (.mapIter (some b) dm #[] dm) (.it (some id) dm [] dm) (λhle aa=>⟨w.heap.size,some b,rfl,yM _ _,h.mem.lim _ om,b,(by grind),rfl⟩) (by grind[dt]);refine⟨_,_,L,_,.inl ?_,key.1,key.2,Ext.push I J h.mem.len _ _,rd _ _⟩;have ab:=run_range_map (P:=P) w t kt et b es dm hu hh;simp_all[execOp]
   trivial
  grind
 .rename_i hm hid;unfold nY at hm;split at hm;.rename_i kt et hu;rw[hid]at hx;have hv:=KJ hx;have key:=h.mem.tX (.mapIter none 0 #[] 0) (.it none 0 [] 0) (λhle aa=>⟨w.heap.size,none,rfl,yM _ _,h.mem.lim _ om,rfl⟩) (by grind[dt]);refine⟨_,_,L,_,.inl ?_,key.1,key.2,Ext.push I J h.mem.len _ _,rd _ _⟩;have ab:=run_range_nilMap (P:=P) w t kt et hu;simp_all[execOp]
  grind
 trivial
def BN(seen:alX):List V->alX->List (V×V×Nat) |k::v::dZ,b::bs=>if seen.contains b then BN seen dZ bs else(k,v,b)::BN seen dZ bs|_,_=>[]
def nZ(open_:Bool)(I:St)(x:V):R:=match x with |.ptr i 0=>(match I[i]?with |some (.it none _ _ _)=>.ok (.cC [.bool false])|some (.it (some id) since seen last)=>(match I[id]?with |some (.mp dZ bs dm)=>if(bs.all λb=>decide (b<since))=true/\since<=last then(match BN seen dZ bs with |[]=>.ok (.cC [.bool false])|[(k,v,b)]=>.st (.cC [.bool true,k,v]) (I.set i (.it (some id) since (seen++[b]) dm))|l=>if open_ then .any (l.map λp=>(.cC [.bool true,p.1,p.2.1],I.set i (.it (some id) since (seen++[p.2.2]) dm)))else .fail)else .fail|_=>.fail)|_=>.fail)|_=>.fail
theorem Sx:∀(dZ:List V)(bs:alX)(es:List MapEntry)(seen:alX),bP (eI w L I J) dZ (es.flatMap λe=>[e.key,e.val])->es.map (·.born)=bs->bP (λp(e:MapEntry)=>eI w L I J p.1 e.key/\eI w L I J p.2.1 e.val/\e.born=p.2.2) (BN seen dZ bs) (es.filter λe=>!seen.contains e.born)
 |[],bs,[],seen,_,hb=>by simpa|[],_,e::es,_,ha,_=>by trivial|[_],_,[],_,ha,_=>by trivial|[_],_,e::es,_,ha,_=>by grind[bP]|_::_::_,_,[],_,ha,_=>by trivial|k::v::dZ,bs,e::es,seen,ha,hb=>by simp only[Br,Bk,Cc,bP]at ha;obtain⟨h1,h2,h3⟩:=ha;cases bs with |nil=>grind|cons b bs=>
   simp only[Ag,List.cons.injEq]at hb;obtain⟨rfl,hb⟩:=hb;have ih:=Sx dZ bs es seen h3 hb;rw[BN,Da];by_cases hc:seen.contains e.born=true;.grind
   .rw[alp hc,alq (sU hc)];trivial
theorem wi3{w1:World}(h:w1=w\/w1=w.drew)(hm:Mem c w L I J):Mem c w1 L I J/\Le w L w1 L:=by
 rcases h with rfl|rfl;.grind[Le.refl]
 .exact hm.drew
theorem Sy{pos:String}(open_:Bool)(x:Operand)(h:ez c nt e I a w L J):fG (nZ open_ I (zI e x)) I (bT P c ⟨dst,.next x false,ty,pos,eK,g⟩ a w L I J):=by
 have hx:=h.eval x;unfold nZ;split
 .rename_i i hid;rw[hid]at hx;obtain⟨r,dD,hv⟩:=hx;split;.rename_i since seen last cP;obtain⟨r',mo,e1,hh,hl,aj⟩:=h.mem.dE _ _ _ cP dD;cases e1;simp only at aj;subst aj;refine bT.pure h (x:=.tuple #[.bool false]) ?_ ⟨[.bool false],rfl,eI.dX (dy.dJ (.bool _)),tV⟩;simp[execOp,hv,Instr.next,getObj,Sem.run,hh]
  .rename_i id since seen last cP;obtain⟨r',mo,e1,hh,hl,b,ak,rfl⟩:=h.mem.dE _ _ _ cP dD;cases e1;split
   .rename_i dZ bs dm ao;obtain⟨b',es,e1,aq,a1,al,an⟩:=h.mem.dE _ _ _ ao ak;cases e1;split
    .rename_i hc;have a6:r<w.heap.size:=(by grind);have aa:=Sx dZ bs es.toList seen al an;have ar:(leftOf es seen.toArray).toList=es.toList.filter λe=>!seen.contains e.born:=by simp[leftOf]
     rw[<-ar]at aa;have hold:∀x∈es.toList,x.born<since:=λx hx=>by have:=Am.1 hc.1 x.born (by rw[<-an];exact Ab.2 ⟨x,hx,rfl⟩);grind
     have ad:=run_next_at (P:=P) w ty r b since last seen.toArray es dm hh aq hold hc.2;have ae:∀o,Ext I J (I.set i o) J:=(by simp_all[Ext.iL]);have step:∀(q:V×V×Nat)(en:MapEntry)(w1:World),(w1=w\/w1=w.drew)->eI w L I J q.1 en.key->eI w L I J q.2.1 en.val->en.born=q.2.2->(Instr.next (.pointer (some ⟨r,0,none⟩)) false ty).run P w=.ok (.tuple #[.bool true,en.key,en.val]) (ChangeMaps.setBlock w1 r (.mapIter (some b) since (seen.toArray.push en.born) dm))->bT P c ⟨dst,.next x false,ty,pos,eK,g⟩ a w L I J (.cC [.bool true,q.1,q.2.1]) (I.set i (.it (some id) since (seen++[q.2.2]) dm)):=by
      intro q en w1 af h1 h2 h3 ab;obtain⟨au,ah⟩:=wi3 af h.mem;have a7:w1.heap[r]?=some (.mapIter (some b) since seen.toArray last):=by rcases af with rfl|rfl<;>exact hh
      have ax:r<w1.heap.size:=(by grind);have key:=au.kA (o:=.it (some id) since (seen++[q.2.2]) dm) cP dD rfl hl (.mapIter (some b) since (seen.toArray.push en.born) dm) (ae _) (by grind[dt]) λhle=>by refine⟨r,some b,rfl,?_,hl,b,ak,rfl⟩;grind[xL]
      refine⟨.tuple #[.bool true,en.key,en.val],yG w1 r (.mapIter (some b) since (seen.toArray.push en.born) dm),L,J,.inl ?_,key.1,ah.trans key.2,ae _,?_⟩;.simp only[execOp,hv,Sem.run_bind,ab,Result.andThen_ok,Sem.run_pure];rfl
      .exact⟨[.bool true,en.key,en.val],rfl,eI.dX (dy.dJ (.bool _)),h1.mono (ah.trans key.2) (ae _),h2.mono (ah.trans key.2) (ae _),tV⟩
     split
     .rename_i av;rw[av]at aa;have h0:(leftOf es seen.toArray).size=0:=by have:=aa.length;grind
      rcases ad with⟨_,ab⟩|⟨en,ai,_⟩;.refine bT.pure h (x:=.tuple #[.bool false]) ?_ ⟨[.bool false],rfl,eI.dX (dy.dJ (.bool _)),tV⟩;grind[execOp,Sem.run_bind,Result.andThen_ok,Sem.run_pure]
      grind
     .rename_i k v b0 aw;rw[aw]at aa;have h0:(leftOf es seen.toArray).size=1:=by have:=aa.length;grind
      rcases ad with⟨hz,_⟩|⟨en,ai,w1,af,ab⟩;.omega
      .obtain⟨q,hq,h1,h2,h3⟩:=bP.nX aa ai;simp at hq;subst hq;exact step _ en w1 af h1 h2 h3 ab
     .rename_i l ay az;split;case isFalse=>trivial
      rcases ad with⟨hz,_⟩|⟨en,ai,w1,af,ab⟩;.have:=aa.length;grind
      .obtain⟨q,hq,h1,h2,h3⟩:=bP.nX aa ai;exact⟨_,Ab.2 ⟨q,hq,rfl⟩,(by grind)⟩
    trivial
   trivial
  trivial
 trivial
def wL(m:Option (Kk×V))(I:St)(x k:V):R:=match m,x with |some (kd,z),.mp id=>if nH kd k=true then(match I[id]?with |some (.mp dZ bs dm)=>(match pe kd k dZ 0with |some (some (i,v))=>(match bs[i]?with|some b=>.ok (.cC [v,.int .i64 (b:Int)])|none=>.fail)|some none=>.st (.cC [z,.int .i64 (dm:Int)]) (I.set id (.mp (dZ++[k,z]) (bs++[dm]) (dm+1)))|none=>.fail)|_=>.fail)else .fail|_,_=>.fail
theorem yW4(es:Array MapEntry)(i:Nat)(f:MapEntry->MapEntry)(h:∀e,es[i]?=some e->f e=e):es.modify i f=es:=by grind
theorem yX4{pos:String}(t:TypeId)(x k:Operand)(h:ez c nt e I a w L J):fG (wL (gU P t) I (zI e x) (zI e k)) I (bT P c ⟨dst,.mapEntry t x k,ty,pos,eK,g⟩ a w L I J):=by
 have hx:=h.eval x;have hk:=h.eval k;unfold wL;split
 .rename_i kd z id hm hid;obtain⟨kt,et,i,zv,hu,ah,hi,hz,av,ai⟩:=Ii hm;rw[hid]at hx;split
  .rename_i ad;have aj:∀em,(Instr.checkKey em 10000 kt (a.eval k)).run P w=.ok () w:=(by grind[Ij]);have an:(zeroValue et).run P w=.ok zv w:=by simp_all[zeroValue,typeInfo]
   obtain⟨b,dD,hv⟩:=Et hx;split
   .rename_i dZ bs dm cP;obtain⟨b',es,e1,hh,hl,aa,ao⟩:=h.mem.dE _ _ _ cP dD;cases e1;have ak:b<w.heap.size:=(by grind);have ab:∀o,Ext I J (I.set id o) J:=(by simp_all[Ext.iL]);have ae:∀ob:Go.Obj,(setObj b ob).run P w=.ok () (yG w b ob):=λob=>by rw[MapKept.run_setObj_map ob hh];rfl
    split
    .rename_i i0 v0 hf;split
     .rename_i b0 aw;rcases BG ah ad hk aa hf with⟨e1,_⟩|⟨j,v',e',e1,e2,e3,_,e5,kk,e6,e7⟩;.cases e1
      .simp only[alu,alD]at e1;obtain⟨rfl,rfl⟩:=e1;have hj:es[i0]?=some e':=by grind
       have al:e'.key=a.eval k:=by obtain⟨y,hy,r⟩:=aa.get _ _ e6;unfold qM at hy;rw[(Eu _ i0).1,e3]at hy;simp at hy;subst hy;exact(Sn hk (dP.lR r) e7).symm
       have aq:e'.born=b0:=by grind
       have af:(es.modify i0 λe=>{e with key:=a.eval k})=es:=yW4 es i0 _ λe he=>by rw[hj]at he;cases he;rw[<-al]
       have ar:I.set id (.mp dZ bs dm)=I:=yP I id _ cP;have key:=h.mem.kA (o:=.mp dZ bs dm) cP dD rfl hl (.map es dm) (ab _) (by grind[dt]) λhle=>by exact⟨b,_,rfl,xL _ _ _ ak,hl,aa.imp (by grind[eI.mono]),ao⟩
       rw[ar]at key;refine⟨.tuple #[e'.val,.int .i64 (b0:Int)],_,L,J,.inl ?_,key.1,key.2,Ext.refl _ _,[e'.val,.int .i64 (b0:Int)],rfl,e5.mono key.2 (by grind),eI.dX (dy.dJ (.int _ _)),tV⟩;simp[execOp,Instr.mapEntry,run_underlying hu,hv,MapKept.run_getObj_map hh,aj,e2,ae,hj,al,Sp ad hk,af,aq,goInt]
     trivial
    .rename_i hf;rcases BG ah ad hk aa hf with⟨_,e2⟩|⟨j,v',e',e1,_⟩
     .have au:eI w L I J (zI e k) (a.eval k):=Gm hk (Ss ad);have key:=h.mem.kA (o:=.mp (dZ++[zI e k,z]) (bs++[dm]) (dm+1)) cP dD rfl hl (.map (es.push {key:=a.eval k,val:=zv,born:=dm}) (dm+1)) (ab _) (by grind[dt]) λhle=>by
       refine⟨b,_,rfl,xL _ _ _ ak,hl,?_,by grind⟩;have:bP (eI w L I J) (dZ++[zI e k,z]) (qM (es.push {key:=a.eval k,val:=zv,born:=dm})):=by simp only[qM,Array.toList_push,alN];exact bP.append aa ⟨au,ai _ _ _ _,tV⟩
       exact this.imp (by grind[eI.mono])
      refine⟨.tuple #[zv,.int .i64 (dm:Int)],_,L,J,.inl ?_,key.1,key.2,ab _,[zv,.int .i64 (dm:Int)],rfl,ai _ _ _ _,eI.dX (dy.dJ (.int _ _)),tV⟩;simp[execOp,Instr.mapEntry,run_underlying hu,hv,MapKept.run_getObj_map hh,aj,e2,ae,an,goInt]
     grind
    trivial
   trivial
  trivial
 trivial
def xZ(I:St)(x s v:V):R:=match x,s with |.mp id,.int _ n=>if nU v=true then(match I[id]?with
  |some (.mp dZ bs dm)=>(match bs.findIdx? λ(b:Nat)=>(b:Int)==n with |some i=>.st .u (I.set id (.mp (dZ.set (2*i+1) v) bs dm))|none=>.fail)|_=>.fail)else .fail|_,_=>.fail
theorem yu6{pos:String}(t:TypeId)(x s v:Operand)(h:ez c nt e I a w L J):fG (xZ I (zI e x) (zI e s) (zI e v)) I (bT P c ⟨dst,.entryStore t x s v,ty,pos,eK,g⟩ a w L I J):=by
 have hx:=h.eval x;have hs:=h.eval s;have hv:=h.eval v;unfold xZ;split
 .rename_i id k n hid ai;rw[hid]at hx;rw[ai]at hs;have hs:=yQ hs;split
  .rename_i hc;obtain⟨b,dD,aj⟩:=Et hx;split
   .rename_i dZ bs dm cP;obtain⟨b',es,e1,hh,hl,aa,ak⟩:=h.mem.dE _ _ _ cP dD;cases e1;have al:b<w.heap.size:=(by grind);have ab:∀o,Ext I J (I.set id o) J:=(by simp_all[Ext.iL]);have ad:∀ob:Go.Obj,(setObj b ob).run P w=.ok () (yG w b ob):=λob=>by rw[MapKept.run_setObj_map ob hh];rfl
    split
    .rename_i i hf;have ae:(es.findIdx? λe=>(e.born:Int)==n)=some i:=by
      rw[<-ak,List.findIdx?_map]at hf;have hq:es.findIdx? (λe=>(e.born:Int)==n)=es.toList.findIdx? λe=>(e.born:Int)==n:=by obtain⟨l⟩:=es;simp
      rw[hq];exact hf
     have hi:i<es.size:=by obtain⟨h1,_⟩:=Array.findIdx?_eq_some_iff_getElem.1 ae;exact h1
     have an:eI w L I J (zI e v) (a.eval v):=Gm hv hc;have hlen:=aa.length;unfold qM at hlen;rw[NT]at hlen;simp only[Cv]at hlen;have ao:2*i<dZ.length:=om;have af:eI w L I J dZ[2*i] es[i].key:=by obtain⟨y,hy,r⟩:=aa.get (2*i) _ (A0 ao);grind[qM,Eu]
     have aq:rE dZ i dZ[2*i] (zI e v)=dZ.set (2*i+1) (zI e v):=by grind[rE,List.set_getElem_self]
     have ah:(es.modify i λe=>{e with val:=a.eval v})=es.modify i λe=>{e with key:=es[i].key,val:=a.eval v}:=by rfl
     have key:=h.mem.kA (o:=.mp (rE dZ i dZ[2*i] (zI e v)) bs dm) cP dD rfl hl (.map (es.modify i λe=>{e with key:=es[i].key,val:=a.eval v}) dm) (ab _) (by grind[dt]) λhle=>by refine⟨b,_,rfl,xL _ _ _ al,hl,(Sq aa af an hi).imp (by grind[eI.mono]),by rw[Sr];omega⟩
     rw[aq,<-ah]at key;refine⟨undef,_,L,J,.inr ⟨?_,rfl⟩,key.1,key.2,ab _,tV⟩;simp[execOp,Instr.entryStore,aj,hs,MapKept.run_getObj_map hh,asInt,asIntOf,ae,ad]
    trivial
   trivial
  trivial
 trivial
def Gp(b:Nat):List V->alX->Option (V×V) |k::v::dZ,b'::bs=>if b'=b then some (k,v)else Gp b dZ bs|_,_=>none
def rF(I:St)(x:V):R:=match x with |.ptr i 0=>(match I[i]?with |some (.it (some id) _ seen last)=>(match I[id]?,seen.getLast? with |some (.mp dZ bs dm),some b=>if dm=last then(match Gp b dZ bs with|some (k,v)=>.ok (.cC [k,v])|none=>.fail)else .fail|_,_=>.fail)|_=>.fail)|_=>.fail
theorem mN(b:Nat):∀(dZ:List V)(bs:alX)(es:List MapEntry)(k v:V),bP (eI w L I J) dZ (es.flatMap λe=>[e.key,e.val])->es.map (·.born)=bs->Gp b dZ bs=some (k,v)->∃e,es.find? (·.born==b)=some e/\eI w L I J k e.key/\eI w L I J v e.val
 |[],_,_,_,_,_,_,h=>by trivial|[_],_,_,_,_,_,_,h=>by trivial|_::_::_,_,[],_,_,ha,_,_=>by simpa|k0::v0::dZ,bs,e::es,k,v,ha,hb,h=>by simp only[Br,Bk,Cc,bP]at ha;obtain⟨h1,h2,h3⟩:=ha;cases bs with |nil=>grind|cons b' bs=>
   simp only[Ag,List.cons.injEq]at hb;obtain⟨rfl,hb⟩:=hb;rw[Gp]at h;by_cases q:e.born=b;.grind
   .rw[alp q]at h;obtain⟨e',g1,g2,g3⟩:=mN b dZ bs es k v h3 hb h;have qb:(e.born==b)=false:=sU q;exact⟨e',by rw[List.find?_cons,qb];exact g1,g2,g3⟩
theorem xW9{pos:String}(x:Operand)(h:ez c nt e I a w L J):fG (rF I (zI e x)) I (bT P c ⟨dst,.entry x,ty,pos,eK,g⟩ a w L I J):=by
 have hx:=h.eval x;unfold rF;split
 .rename_i i hid;rw[hid]at hx;obtain⟨r,dD,hv⟩:=hx;split
  .rename_i id since seen last cP;obtain⟨r',mo,e1,hh,hl,b,ab,rfl⟩:=h.mem.dE _ _ _ cP dD;cases e1;split
   .rename_i dZ bs dm b0 ad af;obtain⟨b',es,e1,ah,ai,aa,ae⟩:=h.mem.dE _ _ _ ad ab;cases e1;split
    .rename_i hc;subst hc;split
     .rename_i k v he;obtain⟨en,g1,g2,g3⟩:=mN b0 dZ bs es.toList k v aa ae he;have aj:es.find? (·.born==b0)=some en:=by grind
      have ak:seen.toArray.back?=some b0:=by grind
      refine bT.pure h (x:=.tuple #[en.key,en.val]) ?_ ⟨[en.key,en.val],rfl,g2,g3,tV⟩;simp_all[execOp,Instr.entry,getObj,Sem.run]
     trivial
    trivial
   trivial
  trivial
 trivial
def Gq(P:Program)(t:TypeId):Bool:=match P.underlying t with|some (.slice _)=>true|_=>false
def BO(b:Bool)(t:TypeId)(x:V):R:=match b,x with |true,.cS id s n lo m=>.ok (.iw t [.cS id s n lo m])|true,.sl g rows=>.ok (.iw t [.sl g rows])|_,_=>.fail
theorem wz7{pos:String}(t:TypeId)(x:Operand)(h:ez c nt e I a w L J):fG (BO (Gq P t) t (zI e x)) I (bT P c ⟨dst,.makeInterface t x,ty,pos,eK,g⟩ a w L I J):=by
 have hx:=h.eval x;have hu:Gq P t=true->(Instr.makeInterface t (a.eval x)).run P w=.ok (.iface t (a.eval x)) w:=λhb=>by unfold Gq at hb;split at hb;all_goals simp_all[Instr.makeInterface,run_underlying]
 unfold BO;split;.rename_i id s n lo m hb hid;rw[hid]at hx;exact bT.pure h (x:=.iface t (a.eval x)) (by simp_all[execOp]) ⟨a.eval x,rfl,hx,tV⟩
 .rename_i g rows hb hid;rw[hid]at hx;exact bT.pure h (x:=.iface t (a.eval x)) (by simp_all[execOp]) ⟨a.eval x,rfl,hx,tV⟩
 trivial
end
def dv(ρ:Nat->Nat):V->V |.ptr id off=>.ptr (ρ id) off|.sl (.app id) rows=>.sl (.app (ρ id)) rows|.cS id s n lo m=>.cS (ρ id) s n lo m|.jk id s n k j=>.jk (ρ id) s n k j|.kF id s off n=>.kF (ρ id) s off n|.mp id=>.mp (ρ id)|v=>v
def du(ρ:Nat->Nat):V->V |.fn f cd=>.fn f (cd.map (dv ρ))|.iw t vs=>.iw t (vs.map (dv ρ))|v=>dv ρ v
def dQ(ρ:Nat->Nat):V->V |.agg cs=>.agg (cs.map (du ρ))|v=>du ρ v
def dL(ρ:Nat->Nat):V->V |.cC vs=>.cC (vs.map (dQ ρ))|v=>dQ ρ v
def yC(ρ:Nat->Nat):Ob->Ob |.box cells=>.box (cells.map (du ρ))|.cv rows s=>.cv (rows.map λr=>r.map (du ρ)) s|.mp dZ gH dm=>.mp (dZ.map (dQ ρ)) gH dm|.it m since seen last=>.it (m.map ρ) since seen last|o=>o
theorem bP.gp{U J γ:Type}{R:U->J->Prop}{S:γ->J->Prop}{f:U->γ}(h:∀a b,R a b->S (f a) b):∀{l:List U}{m:List J},bP R l m->bP S (l.map f) m |[],[],_=>trivial|_::_,_::_,q=>⟨h _ _ q.1,bP.gp h q.2⟩|[],_::_,q=>q.elim|_::_,[],q=>q.elim
theorem bP.gR{U J γ:Type}{R:U->J->Prop}{S:γ->J->Prop}{f:U->γ}(h:∀a b,S (f a) b->R a b):∀{l:List U}{m:List J},bP S (l.map f) m->bP R l m |[],[],_=>trivial|_::_,_::_,q=>⟨h _ _ q.1,bP.gR h q.2⟩|[],_::_,q=>q.elim|_::_,[],q=>q.elim
structure Gr(ρ:Nat->Nat)(I:St)(J:alY)(Ic:St)(Jc:alY):Prop where
 val:∀(id:Nat) x,J[id]?=some x->Jc[ρ id]?=some x
 app:∀(id:Nat) n s,I[id]?=some (.app n s)->Ic[ρ id]?=some (.app n s)cv:∀(id:Nat) rows s,I[id]?=some (.cv rows s)->∃eR,Ic[ρ id]?=some (.cv eR s)/\eR.length=rows.length
 dead:∀(id:Nat),I[id]?=some .dead->Ic[ρ id]?=some .dead
structure tY(ρ:Nat->Nat)(I:St)(J:alY)(Ic:St)(Jc:alY):Prop where
 val:∀(id:Nat) x,Jc[ρ id]?=some x->J[id]?=some x
 app:∀(id:Nat) n s,Ic[ρ id]?=some (.app n s)->I[id]?=some (.app n s)cv:∀(id:Nat) rows s,Ic[ρ id]?=some (.cv rows s)->∃eR,I[id]?=some (.cv eR s)/\eR.length=rows.length
 dead:∀(id:Nat),Ic[ρ id]?=some .dead->I[id]?=some .dead
section
variable{ρ:Nat->Nat}{w:World}{L:Nat->Nat}{I Ic:St}{J Jc:alY}
variable {x:Value}
theorem il.mO(h:Gr ρ I J Ic Jc){v:V}(r:il w L I J v x):il w L Ic Jc (dv ρ v) x:=by cases v with
 |ptr id off=>obtain⟨b,hb,hx⟩:=r;exact⟨b,h.val _ _ hb,hx⟩|sl g rows=>cases g with |app id=>obtain⟨hr,n,s,cP,hle,dD,hl⟩:=r;exact⟨hr,n,s,h.app _ _ _ cP,hle,λq=>h.val _ _ (dD q),hl⟩|ro=>exact r|full=>exact r
 |cS id s n lo m=>
  obtain⟨a,cap,hx,hm,ha,hc⟩:=r;refine⟨a,cap,hx,hm,ha,?_⟩;rcases hc with hd|⟨rows,cP,hn,hb⟩;.exact .inl (h.dead id hd)
  .obtain⟨r2,e2,l2⟩:=h.cv id rows s cP;refine .inr ⟨r2,e2,om,λq=>?_⟩;obtain⟨b,c0,q1,q2⟩:=hb om;exact⟨b,c0,h.val _ _ q1,q2⟩|jk id s n i j=>
  obtain⟨b,o,hx,hc⟩:=r;refine⟨b,o,hx,?_⟩;rcases hc with hd|⟨rows,cP,hn,hb⟩;.exact .inl (h.dead id hd)
  .obtain⟨r2,e2,l2⟩:=h.cv id rows s cP;refine .inr ⟨r2,e2,om,λq q'=>?_⟩;obtain⟨c0,q1,q2⟩:=hb om q';exact⟨c0,h.val _ _ q1,q2⟩|kF id s off n=>obtain⟨b,hb,hx⟩:=r;exact⟨b,h.val _ _ hb,hx⟩|mp id=>obtain⟨b,hb,hx⟩:=r;exact⟨b,h.val _ _ hb,hx⟩|_=>exact r
theorem il.jK(h:tY ρ I J Ic Jc){v:V}(r:il w L Ic Jc (dv ρ v) x):il w L I J v x:=by cases v with
 |ptr id off=>obtain⟨b,hb,hx⟩:=r;exact⟨b,h.val _ _ hb,hx⟩|sl g rows=>cases g with |app id=>obtain⟨hr,n,s,cP,hle,dD,hl⟩:=r;exact⟨hr,n,s,h.app _ _ _ cP,hle,λq=>h.val _ _ (dD q),hl⟩|ro=>exact r|full=>exact r
 |cS id s n lo m=>
  obtain⟨a,cap,hx,hm,ha,hc⟩:=r;refine⟨a,cap,hx,hm,ha,?_⟩;rcases hc with hd|⟨rows,cP,hn,hb⟩;.exact .inl (h.dead id hd)
  .obtain⟨r2,e2,l2⟩:=h.cv id rows s cP;refine .inr ⟨r2,e2,om,λq=>?_⟩;obtain⟨b,c0,q1,q2⟩:=hb om;exact⟨b,c0,h.val _ _ q1,q2⟩|jk id s n i j=>
  obtain⟨b,o,hx,hc⟩:=r;refine⟨b,o,hx,?_⟩;rcases hc with hd|⟨rows,cP,hn,hb⟩;.exact .inl (h.dead id hd)
  .obtain⟨r2,e2,l2⟩:=h.cv id rows s cP;refine .inr ⟨r2,e2,om,λq q'=>?_⟩;obtain⟨c0,q1,q2⟩:=hb om q';exact⟨c0,h.val _ _ q1,q2⟩|kF id s off n=>obtain⟨b,hb,hx⟩:=r;exact⟨b,h.val _ _ hb,hx⟩|mp id=>obtain⟨b,hb,hx⟩:=r;exact⟨b,h.val _ _ hb,hx⟩|_=>exact r
theorem dy.mO(h:Gr ρ I J Ic Jc){v:V}(r:dy w L I J v x):dy w L Ic Jc (du ρ v) x:=by cases v with |fn f cd=>obtain⟨xs,hx,hc⟩:=r;exact⟨xs,hx,(by grind[bP.gp,il.mO])⟩|iw t v=>obtain⟨y,hx,hc⟩:=r;exact⟨y,hx,(by grind[bP.gp,il.mO])⟩|sl g rows=>have r':il w L I J (.sl g rows) x:=r;have:=r'.mO h;cases g<;>exact this|_=>simp only[dy]at r;have q:=il.mO h r;exact q
theorem dy.jK(h:tY ρ I J Ic Jc){v:V}(r:dy w L Ic Jc (du ρ v) x):dy w L I J v x:=by cases v with
 |fn f cd=>obtain⟨xs,hx,hc⟩:=r;exact⟨xs,hx,(by grind[bP.gR,il.jK])⟩|iw t v=>obtain⟨y,hx,hc⟩:=r;exact⟨y,hx,(by grind[bP.gR,il.jK])⟩|sl g rows=>
  have r':il w L Ic Jc (dv ρ (.sl g rows)) x:=by cases g<;>exact r
  exact r'.jK h|_=>simp only[dy];refine il.jK h ?_;exact r
theorem eI.mO(h:Gr ρ I J Ic Jc){v:V}(r:eI w L I J v x):eI w L Ic Jc (dQ ρ v) x:=by cases v with |agg cs=>obtain⟨xs,hx,hc⟩:=r;exact⟨xs,hx,(by grind[bP.gp,dy.mO])⟩|sl g rows=>have r':dy w L I J (.sl g rows) x:=r;have:=r'.mO h;cases g<;>exact this|_=>simp only[eI]at r;have q:=dy.mO h r;exact q
theorem eI.jK(h:tY ρ I J Ic Jc){v:V}(r:eI w L Ic Jc (dQ ρ v) x):eI w L I J v x:=by cases v with
 |agg cs=>obtain⟨xs,hx,hc⟩:=r;exact⟨xs,hx,(by grind[bP.gR,dy.jK])⟩|sl g rows=>
  have r':dy w L Ic Jc (du ρ (.sl g rows)) x:=by cases g<;>exact r
  exact r'.jK h|_=>simp only[eI];refine dy.jK h ?_;exact r
theorem dP.mO(h:Gr ρ I J Ic Jc){v:V}(r:dP w L I J v x):dP w L Ic Jc (dL ρ v) x:=by cases v with |u=>trivial|cC vs=>obtain⟨xs,hx,hc⟩:=r;exact⟨xs,hx,(by grind[bP.gp,eI.mO])⟩|sl g rows=>have r':eI w L I J (.sl g rows) x:=r;have:=r'.mO h;cases g<;>exact this|_=>simp only[dP]at r;have q:=eI.mO h r;exact q
theorem dP.jK(h:tY ρ I J Ic Jc){v:V}(r:dP w L Ic Jc (dL ρ v) x):dP w L I J v x:=by cases v with
 |u=>trivial|cC vs=>obtain⟨xs,hx,hc⟩:=r;exact⟨xs,hx,(by grind[bP.gR,eI.jK])⟩|sl g rows=>
  have r':eI w L Ic Jc (dQ ρ (.sl g rows)) x:=by cases g<;>exact r
  exact r'.jK h|_=>simp only[dP];refine eI.jK h ?_;exact r
theorem iy.mO(h:Gr ρ I J Ic Jc){o:Ob}(r:iy w L I J o x):iy w L Ic Jc (yC ρ o) x:=by cases o with
 |box cells=>obtain⟨b,arr,T,fz,hx,hh,hf,hl,hc⟩:=r;exact⟨b,arr,T,fz,hx,hh,hf,hl,(by grind[bP.gp,dy.mO])⟩|cv rows s=>
  obtain⟨a,cap,hx,dG,hs,hu,cZ⟩:=r;refine⟨a,cap,by grind,by grind,hs,λr hr=>?_,λh0=>?_⟩;.grind
  grind[bP.gp,dy.mO]|app n s=>exact r|dead=>trivial|mp dZ gH dm=>obtain⟨b,es,hx,hh,hl,hc,hb⟩:=r;exact⟨b,es,hx,hh,hl,(by grind[bP.gp,eI.mO]),hb⟩|it m since seen last=>obtain⟨b,mo,hx,hh,hl,hc⟩:=r;refine⟨b,mo,hx,hh,hl,?_⟩;cases m with|none=>exact hc|some id=>obtain⟨q,hq,hm⟩:=hc;exact⟨q,h.val _ _ hq,hm⟩
theorem iy.jK(h:tY ρ I J Ic Jc){o:Ob}(r:iy w L Ic Jc (yC ρ o) x):iy w L I J o x:=by cases o with
 |box cells=>obtain⟨b,arr,T,fz,hx,hh,hf,hl,hc⟩:=r;exact⟨b,arr,T,fz,hx,hh,hf,hl,(by grind[bP.gR,dy.jK])⟩|cv rows s=>
  obtain⟨a,cap,hx,dG,hs,hu,cZ⟩:=r;refine⟨a,cap,by grind,by grind,hs,λr hr=>?_,λh0=>?_⟩;.simp_all
  grind[bP.gR,dy.jK]|app n s=>exact r|dead=>trivial|mp dZ gH dm=>obtain⟨b,es,hx,hh,hl,hc,hb⟩:=r;exact⟨b,es,hx,hh,hl,(by grind[bP.gR,eI.jK]),hb⟩|it m since seen last=>obtain⟨b,mo,hx,hh,hl,hc⟩:=r;refine⟨b,mo,hx,hh,hl,?_⟩;cases m with|none=>exact hc|some id=>obtain⟨q,hq,hm⟩:=hc;exact⟨q,h.val _ _ hq,hm⟩
theorem tZ(o:Ob)(x:Value):dt (yC ρ o) x=dt o x:=by cases o with
 |cv rows s=>cases x with |slice a n cap=>cases a<;>rfl|_=>rfl
 |_=>cases x<;>first|rfl|(rename_i q;cases q<;>rfl)
end
variable {I:St}{P:Program}
def vM(I:St)(J:alY):alX:=(I.zip J).filterMap λp=>dt p.1 p.2
theorem im{J:alY}{b:Nat}:b∈vM I J↔∃(i:Nat)(o:Ob)(x:Value),I[i]?=some o/\J[i]?=some x/\dt o x=some b:=by
 unfold vM;rw[E3];constructor;.rintro⟨⟨o,x⟩,hm,he⟩;obtain⟨i,hi⟩:=Aq.1 hm;grind[List.getElem?_zip_eq_some]
 .rintro⟨i,o,x,h1,h2,h3⟩;exact⟨(o,x),Aq.2 ⟨i,by grind⟩,h3⟩
def entry(w:World)(L:Nat->Nat)(I:St)(J:alY):Ctx:=⟨w,L,vM I J,I,J⟩
def cO(dz:alX)(N:Nat)(id:Nat):Nat:=if h:id<dz.length then dz[id]else N+(id-dz.length)
def bN(P:Program)(f:FuncId)(args:List V)(I:St)(R:V->St->Prop):Prop:=∀(w:World)(L:Nat->Nat)(J:alY)(kG:alY),Mem (entry w L I J) w L I J->bP (dP w L I J) args kG->Calls P f kG.toArray w λe w'=>∃v r L' I' J',e=.returned v/\R r I'/\I.length<=I'.length/\Mem (entry w L I J) w' L' I' J'/\dP w' L' I' J' r v
theorem bN.mono{f:FuncId}{args:List V}{R R':V->St->Prop}(h:bN P f args I R)(hR:∀r I',R r I'->R' r I'):bN P f args I R':=λw L J aa hm ha=>(h w L J aa hm ha).mono (by grind)
def VC(P:Program)(c:Ctx)(fv:V)(args:List V)(I:St)(K:V->St->Prop):Prop:=∃f cd,fv=.fn f cd/\(((∃fn,P.funcs[f]?=some fn/\(fn.name=="runtime.NumGoroutine")=false/\fn.body.isSome=true)/\∀w L J kG,Mem c w L I J->bP (dP w L I J) (args++cd) kG->Calls P f kG.toArray w λe w'=>∃v r L' I' J',e=.returned v/\K r I'/\Mem c w' L' I' J'/\Le w L w' L'/\Ext I J I' J'/\dP w' L' I' J' r v)\/∀w L J kG,Mem c w L I J->bP (dP w L I J) (args++cd) kG->∃v r w' L' I' J',(callFunc f kG.toArray).run P w=.ok (.value v) w'/\K r I'/\Mem c w' L' I' J'/\Le w L w' L'/\Ext I J I' J'/\dP w' L' I' J' r v)
theorem VC.mono{c:Ctx}{fv:V}{az:List V}{K K':V->St->Prop}(h:VC P c fv az I K)(hk:∀v s,K v s->K' v s):VC P c fv az I K':=by
 obtain⟨f,cd,h1,⟨h2,h3⟩|h3⟩:=h;.refine⟨f,cd,h1,.inl ⟨h2,λw L J aa hm ha=>(h3 w L J aa hm ha).mono ?_⟩⟩;grind
 .refine⟨f,cd,h1,.inr λw L J aa hm ha=>?_⟩;grind
def xI(P:Program)(f:FuncId):Bool:=match P.funcs[f]?with|some fn=>!(fn.name=="runtime.NumGoroutine")&&fn.body.isSome|none=>false
theorem KL{f:FuncId}(h:xI P f):∃fn,P.funcs[f]?=some fn/\(fn.name=="runtime.NumGoroutine")=false/\fn.body.isSome=true:=by unfold xI at h;grind
def pK(ρ:Nat->Nat)(a' a:V):Prop:=a=du ρ a'\/∃g rows,a'=.sl .ro rows/\a=.sl g rows
def jb(ρ:Nat->Nat)(a' a:V):Prop:=a=dQ ρ a'\/(∃g rows,a'=.sl .ro rows/\a=.sl g rows)\/∃cs' cs,a'=.agg cs'/\a=.agg cs/\bP (pK ρ) cs' cs
def cW(ρ:Nat->Nat)(a' a:V):Prop:=a=dL ρ a'\/a'=.u\/(∃g rows,a'=.sl .ro rows/\a=.sl g rows)\/(∃cs' cs,a'=.agg cs'/\a=.agg cs/\bP (pK ρ) cs' cs)\/∃iA vs,a'=.cC iA/\a=.cC vs/\bP (jb ρ) iA vs
def fW{U:Type}:alX->List U->List U->List U |i::dz,l,x::xs=>fW dz (l.set i x) xs|_,l,_=>l
theorem n4{U:Type}:∀(dz:alX)(l xs:List U),(fW dz l xs).length=l.length |[],_,_=>by rfl|i::dz,l,[]=>by rfl|i::dz,l,x::xs=>by simp[fW,n4 dz]
theorem ua{U:Type}:∀(dz:alX)(l xs:List U)(j:Nat),j∉dz->(fW dz l xs)[j]?=l[j]?
 |[],_,_,_,_=>by rfl|i::dz,l,[],_,_=>by rfl|i::dz,l,x::xs,j,h=>by simp only[Af,not_or]at h;rw[fW,ua dz _ xs j h.2,Dd (λq=>h.1 q.symm)]
theorem KM{U:Type}:∀(dz:alX)(l xs:List U)(i j:Nat),dz.Nodup->(∀q∈dz,q<l.length)->dz.length<=xs.length->dz[i]?=some j->(fW dz l xs)[j]?=xs[i]?
 |[],_,_,_,_,_,_,_,h=>by grind|i0::dz,l,[],_,_,_,_,hl,_=>by grind|i0::dz,l,x::xs,0,j,hn,aa,hl,h=>by simp at h;subst h;rw[C6]at hn;rw[fW,ua dz _ xs i0 hn.1,Bm (aa i0 sM)];rfl|i0::dz,l,x::xs,i+1,j,hn,aa,hl,h=>by rw[C6]at hn;rw[fW,KM dz _ xs i j hn.2 (λq hq=>by simp;exact aa q (by simp[hq])) (sU hl) (sU h)];simp
def yY(dz:alX)(Ic I':St):St:=fW dz Ic ((I'.take dz.length).map (yC (cO dz Ic.length)))++(I'.drop dz.length).map (yC (cO dz Ic.length))
def ub(dz:alX)(Jc J':alY):alY:=fW dz Jc (J'.take dz.length)++J'.drop dz.length
section
variable {P:Program} {c:Ctx}
variable {dz:alX}{i:Nat}
theorem jW{N:Nat}(h:i<dz.length):cO dz N i=dz[i]:=by grind[cO]
theorem rG{N:Nat}(h:¬i<dz.length):cO dz N i=N+(i-dz.length):=by grind[cO]
theorem Ev{Ic I':St}(hn:dz.Nodup)(aa:∀q∈dz,q<Ic.length)(hl:dz.length<=I'.length){o:Ob}(h:I'[i]?=some o):(yY dz Ic I')[cO dz Ic.length i]?=some (yC (cO dz Ic.length) o):=by
 unfold yY;by_cases hi:i<dz.length;.rw[jW hi,Ap (by rw[n4];exact aa _ (A9 hi)),KM dz _ _ i _ hn aa (by simp;omega) (A0 hi),B9,An,alq hi,h];rfl
 .rw[rG hi,Ar (by rw[n4];omega),n4,B9,Cb,show dz.length+(Ic.length+(i-dz.length)-Ic.length)=i by omega,h];rfl
theorem Sz{Jc J':alY}(hn:dz.Nodup)(aa:∀q∈dz,q<Jc.length)(hl:dz.length<=J'.length){x:Value}(h:J'[i]?=some x):(ub dz Jc J')[cO dz Jc.length i]?=some x:=by
 unfold ub;by_cases hi:i<dz.length;.rw[jW hi,Ap (by rw[n4];exact aa _ (A9 hi)),KM dz _ _ i _ hn aa (by simp;omega) (A0 hi),An,alq hi,h]
 grind[rG,n4]
theorem xF8{dz:alX}{Ic I':St}{Jc J':alY}(hn:dz.Nodup)(aa:∀q∈dz,q<Ic.length)(ad:Jc.length=Ic.length)(ae:J'.length=I'.length)(hl:dz.length<=I'.length){j:Nat}{o:Ob}{x:Value}(h1:(yY dz Ic I')[j]?=some o)(h2:(ub dz Jc J')[j]?=some x):(∃(i:Nat)(o':Ob),j=cO dz Ic.length i/\I'[i]?=some o'/\o=yC (cO dz Ic.length) o'/\J'[i]?=some x)\/(j∉dz/\j<Ic.length/\Ic[j]?=some o/\Jc[j]?=some x):=by
 have ab:∀q∈dz,q<Jc.length:=by grind
 by_cases hj:j<Ic.length
 .by_cases hm:j∈dz;.obtain⟨i,hi⟩:=Aq.1 hm;obtain⟨af,ah⟩:=A3.1 hi;have e1:=Ev hn aa hl (A0 (show i<I'.length by omega));grind[Sz,jW]
  grind[yY,ub,n4,ua]
 grind[yY,ub,n4,rG]
theorem NU{U J γ:Type}{A:U->J->Prop}{B:J->γ->Prop}{C:U->γ->Prop}(h:∀a b c,A a b->B b c->C a c):∀{l:List U}{m:List J}{n:List γ},bP A l m->bP B m n->bP C l n|[],[],[],_,_=>trivial|_::_,_::_,_::_,p,q=>⟨h _ _ _ p.1 q.1,NU h p.2 q.2⟩|[],_::_,_,p,_=>p.elim|_::_,[],_,p,_=>p.elim|[],[],_::_,_,q=>q.elim|_::_,_::_,[],_,q=>q.elim
section
variable{ρ:Nat->Nat}{w:World}{L:Nat->Nat}{I Ic:St}{J Jc:alY}
variable {a':V}{a:V}{x:Value}
theorem wg9(h:tY ρ I J Ic Jc)(ha:pK ρ a' a)(r:dy w L Ic Jc a x):dy w L I J a' x:=by
 rcases ha with rfl|⟨g,rows,rfl,rfl⟩;.exact r.jK h
 .exact tQ (by simpa)
theorem SA(h:tY ρ I J Ic Jc)(ha:jb ρ a' a)(r:eI w L Ic Jc a x):eI w L I J a' x:=by
 rcases ha with rfl|⟨g,rows,rfl,rfl⟩|⟨ab,cs,rfl,rfl,aa⟩;.exact r.jK h
 .exact tQ (dP.lR r)
 .obtain⟨xs,hx,hr⟩:=r;exact⟨xs,hx,(by grind[NU,wg9])⟩
theorem BP(h:tY ρ I J Ic Jc)(ha:cW ρ a' a)(r:dP w L Ic Jc a x):dP w L I J a' x:=by
 rcases ha with rfl|rfl|⟨g,rows,rfl,rfl⟩|⟨ab,cs,rfl,rfl,aa⟩|⟨iA,vs,rfl,rfl,aa⟩;.exact r.jK h
 .trivial
 .exact tQ r
 .exact dP.lR (SA h (.inr (.inr ⟨ab,cs,rfl,rfl,aa⟩)) r)
 .obtain⟨xs,hx,hr⟩:=r;exact⟨xs,hx,(by grind[NU,SA])⟩
end
theorem VC.of{f:FuncId}{cd args ct:List V}{Ic fM:St}{R:V->St->Prop}{K:V->St->Prop}(hc:bN P f ct fM R)(hb:xI P f)(dz:alX)(an:dz.Nodup)(hlen:fM.length=dz.length)(aA:∀(i j:Nat)(o:Ob),dz[i]?=some j->fM[i]?=some o->Ic[j]?=some (yC (cO dz Ic.length) o))(aj:bP (cW (cO dz Ic.length)) ct (args++cd))(hk:∀r I',R r I'->dz.length<=I'.length->K (dL (cO dz Ic.length) r) (yY dz Ic I')):VC P c (.fn f cd) args Ic K:=by
 refine⟨f,cd,rfl,.inl ⟨KL hb,λw L Jc af hm hv=>?_⟩⟩;have ah:∀q∈dz,q<Ic.length:=λq hq=>by obtain⟨i,hi⟩:=Aq.1 hq;have al:=(A3.1 hi).1;have:=aA i q _ hi (A0 (show i<fM.length by omega));grind
 let pL:=dz.map λq=>Jc.getD q undef;have ao:∀(i j:Nat),dz[i]?=some j->pL[i]?=Jc[j]?:=λi j hi=>by simp only[pL,B9,hi,Bf];have hj:=ah j (by grind);rw[Aj,A0 (by rw[hm.len];exact hj)];rfl
 have ak:∀(id:Nat) O,Ic[cO dz Ic.length id]?=some O->∃o,fM[id]?=some o/\O=yC (cO dz Ic.length) o:=(by grind[jW,rG]);have ai:tY (cO dz Ic.length) fM pL Ic Jc:=by
  refine⟨λid x hx=>?_,λid n s hx=>?_,λid rows s hx=>?_,λid hx=>?_⟩
  .by_cases hi:id<dz.length;.grind[jW]
   .rw[rG hi]at hx;have:=(A3.1 hx).1;rw[hm.len]at this;omega
  .obtain⟨o,ho,he⟩:=ak id _ hx;cases o<;>grind[yC]
  .obtain⟨o,ho,he⟩:=ak id _ hx;cases o<;>grind[yC]
  .obtain⟨o,ho,he⟩:=ak id _ hx;cases o with|dead=>exact ho|_=>simp[yC]at he
 have ae:∀(i:Nat)(o:Ob)(x:Value),fM[i]?=some o->pL[i]?=some x->∃j,dz[i]?=some j/\Ic[j]?=some (yC (cO dz Ic.length) o)/\Jc[j]?=some x:=by grind
 have aB:Mem (entry w L fM pL) w L fM pL:=by
  refine⟨by grind,λi o x ho hx=>?_,λi j o o' x x' b a8 ho hx aw ax he=>?_,λi o x b ho hx he=>?_,λb _ _=>(by trivial),Le.refl _ _,A7 _,rfl,rfl,rfl,A7 _,hm.lim,Ext.refl _ _,hm.jV.mono hm.le⟩;.obtain⟨j,hj,h1,h2⟩:=ae i o x ho hx;exact(hm.dE j _ x h1 h2).jK ai
  .obtain⟨p,hp,h1,h2⟩:=ae i o x ho hx;obtain⟨q,hq,h3,h4⟩:=ae j o' x' aw ax;have aC:p≠q:=(by grind[List.getElem_inj]);have:=hm.apart p q _ _ x x' b aC h1 h2 h3 h4 (by grind[tZ]);grind[tZ]
  .exact .inr (im.2 (by grind))
 have aD:bP (dP w L fM pL) ct af:=by clear hk hc;generalize args++cd=az at hv aj;induction ct generalizing az af with
  |nil=>cases az with |nil=>cases af<;>simpa|cons _ _=>trivial
  |cons p ct ih=>cases az with|nil=>trivial|cons q az=>cases af with |nil=>simpa|cons y ys=>exact⟨BP ai aj.1 hv.1,ih _ _ hv.2 aj.2⟩
 refine(hc w L pL af aB aD).mono λe w' ⟨v,r,L',I',J',he,hR,aI,aa,aE⟩=>?_;have ay:dz.length<=I'.length:=om;have aF:∀q∈dz,q<Jc.length:=by rw[hm.len];omega
 have ad:Gr (cO dz Ic.length) I' J' (yY dz Ic I') (ub dz Jc J'):=by refine⟨λid x hx=>?_,λid n s hx=>Ev an ah ay hx,λid rows s hx=>⟨_,Ev an ah ay hx,sM⟩,λid hx=>Ev an ah ay hx⟩;have:=Sz an aF (by rw[aa.len];omega) hx;rw[hm.len]at this;omega
 have aq:∀(j:Nat)(o:Ob)(x:Value)(b:Nat),j∉dz->Ic[j]?=some o->Jc[j]?=some x->dt o x=some b->b∉vM fM pL:=by intro j o x b hj ho hx he hb;obtain⟨i,o',x',h1,h2,h3⟩:=im.1 hb;obtain⟨p,hp,h4,h5⟩:=ae i o' x' h1 h2;have aG:j≠p:=(by grind);exact hm.apart j p o _ x x' b aG ho hx h4 h5 he (by grind[tZ])
 have a1:∀b,b∈vM fM pL->c.w0.heap.size<=b\/b∈c.X0:=by intro b hb;obtain⟨i,o',x',h1,h2,h3⟩:=im.1 hb;obtain⟨p,hp,h4,h5⟩:=ae i o' x' h1 h2;exact hm.gA p _ x' b h4 h5 (by grind[tZ])
 have ar:Ext Ic Jc (yY dz Ic I') (ub dz Jc J'):=by
  refine⟨λid a ha=>?_,λid n s ha=>?_,λid rows s ha=>?_,λid ha=>?_⟩
  .have au:id<Jc.length:=(by grind);by_cases hs:id∈dz;.obtain⟨i,hi⟩:=Aq.1 hs;have h1:=ao i id hi;rw[ha]at h1;have h2:=aa.ext.ptr i a h1;have h3:=ad.val i _ h2;grind[jW]
   grind[ub,n4,ua]
  .have au:id<Ic.length:=(by grind);by_cases hs:id∈dz
   .obtain⟨i,hi⟩:=Aq.1 hs;obtain⟨al,av⟩:=A3.1 hi;have h1:=ai.app i n s (by grind[jW]);obtain⟨n',h2,h3,h4⟩:=aa.ext.app i n s h1;have h5:=ad.app i n' s h2;rw[jW al,av]at h5;refine⟨n',h5,h3,λe=>?_⟩;have h6:=h4 e;rw[show(entry w L fM pL).β0=pL from rfl,ao i id hi]at h6;have a6:i<J'.length:=by grind
    have h7:=ad.val i _ (A0 a6);grind[jW]
   .refine⟨n,?_,om,λ_=>?_⟩;.grind[yY,n4,ua]
    .unfold ub;rw[Ap (by rw[n4,hm.len];omega),ua _ _ _ _ hs]
  .have au:id<Ic.length:=(by grind);by_cases hs:id∈dz
   .obtain⟨i,hi⟩:=Aq.1 hs;obtain⟨al,av⟩:=A3.1 hi;obtain⟨r0,h1,l1⟩:=ai.cv i rows s (by grind[jW]);rcases aa.ext.cv i r0 s h1 with h2|⟨r2,h2,h3,h4⟩;.have h5:=ad.dead i h2;grind[jW]
    .obtain⟨r3,h5,l5⟩:=ad.cv i r2 s h2;rw[jW al,av]at h5;refine .inr ⟨r3,h5,om,λe=>?_⟩;have h6:=h4 om;rw[show(entry w L fM pL).β0=pL from rfl,ao i id hi]at h6;have a6:i<J'.length:=by grind
     have h7:=ad.val i _ (A0 a6);rw[jW al,av]at h7;grind
   .refine .inr ⟨rows,?_,om,λ_=>?_⟩;.grind[yY,n4,ua]
    .unfold ub;rw[Ap (by rw[n4,hm.len];omega),ua _ _ _ _ hs]
  .have au:id<Ic.length:=(by grind);by_cases hs:id∈dz;.obtain⟨i,hi⟩:=Aq.1 hs;obtain⟨al,av⟩:=A3.1 hi;have h1:=ai.dead i (by grind[jW]);have h5:=ad.dead i (aa.ext.dead i h1);grind[jW]
   grind[yY,n4,ua]
 have hinv:=@xF8 dz Ic I' Jc J' an ah hm.len aa.len ay;refine⟨v,dL (cO dz Ic.length) r,L',_,_,he,(by grind),?_,aa.le,ar,aE.mO ad⟩;refine⟨?_,λj o x ho hx=>?_,λj j' o o' x x' b a8 ho hx aw ax ab=>?_,λj o x b ho hx ab=>?_,λb ab hx=>?_,hm.le.trans aa.le,Ax hm.size aa.size,aa.os.trans hm.os,aa.tape.trans hm.tape,aa.output.trans hm.output,Ax hm.drawn aa.drawn,aa.lim,hm.ext.trans ar,hm.jV⟩;.simp[yY,ub,n4,hm.len,aa.len]
 .rcases hinv ho hx with⟨i,o',rfl,h1,rfl,h2⟩|⟨h0,a7,h1,h2⟩;.exact(aa.dE i o' x h1 h2).mO ad
  .refine(hm.dE j o x h1 h2).step aa.le ar λb ab=>aa.same b ?_ (aq j o x b h0 h1 h2 ab);exact(hm.dE j o x h1 h2).fh ab
 .rcases hinv ho hx with⟨i,o1,rfl,h1,rfl,h2⟩|⟨h0,a7,h1,h2⟩
  .rw[tZ]at ab;rcases hinv aw ax with⟨i',o2,rfl,h3,rfl,h4⟩|⟨h0,a7,h3,h4⟩;.rw[tZ];exact aa.apart i i' o1 o2 x x' b (by grind) h1 h2 h3 h4 ab
   .intro q;rcases aa.gA i o1 x b h1 h2 ab with h5|h5;.have:=(hm.dE j' o' x' h3 h4).fh q;have h6:w.heap.size<=b:=h5;omega
    .exact aq j' o' x' b h0 h3 h4 q h5
  .rcases hinv aw ax with⟨i',o2,rfl,h3,rfl,h4⟩|⟨aK,aJ,h3,h4⟩
   .rw[tZ];intro q;rcases aa.gA i' o2 x' b h3 h4 q with h5|h5;.have:=(hm.dE j o x h1 h2).fh ab;have h6:w.heap.size<=b:=h5;omega
    .exact aq j o x b h0 h1 h2 ab h5
   .exact hm.apart j j' o o' x x' b a8 h1 h2 h3 h4 ab
 .rcases hinv ho hx with⟨i,o1,rfl,h1,rfl,h2⟩|⟨h0,a7,h1,h2⟩
  .rw[tZ]at ab;rcases aa.gA i o1 x b h1 h2 ab with h5|h5;.exact .inl (Ax hm.size h5)
   .exact a1 b h5
  .exact hm.gA j o x b h1 h2 ab
 .have aH:b∉vM fM pL:=(by grind);obtain⟨e1,e2⟩:=aa.same b (Dk ab hm.size) aH;obtain⟨e3,e4⟩:=hm.same b ab hx;exact⟨e1.trans e3,e2.trans e4⟩
structure gT(n0:Nat)(pick:alX)(I I':St):Prop where
 len:I'.length=pick.length
 nodup:pick.Nodup
 ob:∀(i j:Nat)(o:Ob),pick[i]?=some j->I'[i]?=some o->I[j]?=some (yC (cO pick I.length) o)id:∀i,i<n0->pick[i]?=some i
theorem gT.back{n0:Nat}{pick:alX}{I I':St}(h:gT n0 pick I I')(id:Nat)(O:Ob)(hx:I[cO pick I.length id]?=some O):∃o,I'[id]?=some o/\O=yC (cO pick I.length) o:=by
 by_cases hi:id<pick.length;.rw[jW hi]at hx;have hq:=A0 (show id<I'.length by rw[h.len];exact hi);have:=h.ob id _ _ (A0 hi) hq;grind
 grind[rG]
theorem gT.jK{n0:Nat}{pick:alX}{I I':St}{J:alY}(h:gT n0 pick I I')(hl:J.length=I.length):tY (cO pick I.length) I' (pick.map λq=>J.getD q undef) I J:=by
 refine⟨λid x hx=>?_,λid n s hx=>?_,λid rows s hx=>?_,λid hx=>?_⟩;.grind[jW,rG]
 .obtain⟨o,ho,he⟩:=h.back id _ hx;cases o<;>grind[yC]
 .obtain⟨o,ho,he⟩:=h.back id _ hx;cases o<;>grind[yC]
 .obtain⟨o,ho,he⟩:=h.back id _ hx;cases o with|dead=>exact ho|_=>simp[yC]at he
theorem Mem.pick{w:World}{L:Nat->Nat}{I I':St}{J:alY}{pick:alX}(h:Mem c w L I J)(hp:gT c.cD.length pick I I')(hc:c.β0.length=c.cD.length):Mem c w L I' (pick.map λq=>J.getD q undef):=by
 have ab:=hp.jK h.len;have aa:∀(i:Nat)(o:Ob)(x:Value),I'[i]?=some o->(pick.map λq=>J.getD q undef)[i]?=some x->∃j,pick[i]?=some j/\I[j]?=some (yC (cO pick I.length) o)/\J[j]?=some x:=by
  intro i o x ho hx;have hi:i<pick.length:=by grind
  have hs:=A0 hi;have h1:=hp.ob i _ o hs ho;refine⟨_,hs,h1,?_⟩;have an:pick[i]<J.length:=by rw[h.len];grind
  grind
 refine⟨by simp[hp.len],λi o x ho hx=>?_,λi j o o' x x' b ai ho hx aj ak he=>?_,λi o x b ho hx he=>?_,h.same,h.le,h.size,h.os,h.tape,h.output,h.drawn,h.lim,?_,h.jV⟩;.obtain⟨j,hj,h1,h2⟩:=aa i o x ho hx;exact(h.dE j _ x h1 h2).jK ab
 .obtain⟨p,ah,h1,h2⟩:=aa i o x ho hx;obtain⟨q,hq,h3,h4⟩:=aa j o' x' aj ak;have al:p≠q:=λe=>by subst e;obtain⟨hi,e1⟩:=A3.1 ah;obtain⟨hj,e2⟩:=A3.1 hq;exact ai ((List.getElem_inj hp.nodup).1 om)
  have:=h.apart p q _ _ x x' b al h1 h2 h3 h4 (by grind[tZ]);grind[tZ]
 .obtain⟨p,ah,h1,h2⟩:=aa i o x ho hx;exact h.gA p _ x b h1 h2 (by grind[tZ])
 .refine⟨λid a ha=>?_,λid n s ha=>?_,λid rows s ha=>?_,λid ha=>?_⟩
  .have hid:id<c.cD.length:=by grind
   have h1:=h.ext.ptr id a ha;rw[B9,hp.id id hid];grind
  .have hid:id<c.cD.length:=(by grind);obtain⟨n',h1,h2,h3⟩:=h.ext.app id n s ha;have ad:=hp.id id hid;obtain⟨ae,af⟩:=A3.1 ad;refine⟨n',ab.app id n' s (by grind[jW]),h2,λe=>?_⟩;grind
  .have hid:id<c.cD.length:=(by grind);have ad:=hp.id id hid;obtain⟨ae,af⟩:=A3.1 ad;rcases h.ext.cv id rows s ha with h1|⟨r2,h1,h2,h3⟩;.exact .inl (ab.dead id (by grind[jW]))
   .obtain⟨r3,h5,l5⟩:=ab.cv id r2 s (by grind[jW]);grind
  .have hid:id<c.cD.length:=(by grind);have ad:=hp.id id hid;obtain⟨ae,af⟩:=A3.1 ad;exact ab.dead id (by rw[jW ae,af];exact h.ext.dead id ha)
end
def fH(id:Nat)(rows:List (List V)):V->V |.cS i s n lo m=>if i=id/\n=rows.length/\lo+m<=n then .sl .ro (wU rows lo m)else .cS i s n lo m|v=>v
def fN(id:Nat)(rows:List (List V)):V->V |.fn f cd=>.fn f (cd.map (fH id rows))|.iw t vs=>.iw t (vs.map (fH id rows))|v=>fH id rows v
def fX(id:Nat)(rows:List (List V)):V->V |.agg cs=>.agg (cs.map (fN id rows))|v=>fN id rows v
def fO(id:Nat)(rows:List (List V)):V->V |.cC vs=>.cC (vs.map (fX id rows))|v=>fX id rows v
def mP(id:Nat)(rows:List (List V)):Ob->Ob |.box cells=>.box (cells.map (fN id rows))|.cv rs s=>.cv (rs.map λr=>r.map (fN id rows)) s|.mp dZ gH dm=>.mp (dZ.map (fX id rows)) gH dm|o=>o
def jG(id:Nat)(rows:List (List V))(I:St):St:=(I.set id .dead).map (mP id rows)
structure uc(I I':St):Prop where
 app:∀(id:Nat) n s,I[id]?=some (.app n s)->I'[id]?=some (.app n s)cv:∀(id:Nat) rows s,I[id]?=some (.cv rows s)->∃eR,I'[id]?=some (.cv eR s)/\eR.length=rows.length
 dead:∀(id:Nat),I[id]?=some .dead->I'[id]?=some .dead
section
variable{w:World}{L:Nat->Nat}{I I':St}{J:alY}
theorem il.NV(h:uc I I'){v:V}{x:Value}(r:il w L I J v x):il w L I' J v x:=by cases v with
 |sl g rows=>cases g with |app id=>obtain⟨hr,n,s,cP,hle,dD,hl⟩:=r;exact⟨hr,n,s,h.app _ _ _ cP,hle,dD,hl⟩|ro=>exact r|full=>exact r
 |cS id s n lo m=>
  obtain⟨a,cap,hx,hm,ha,hc⟩:=r;refine⟨a,cap,hx,hm,ha,?_⟩;rcases hc with hd|⟨rows,cP,hn,hb⟩;.exact .inl (h.dead id hd)
  .obtain⟨r2,e2,l2⟩:=h.cv id rows s cP;grind|jk id s n i j=>
  obtain⟨b,o,hx,hc⟩:=r;refine⟨b,o,hx,?_⟩;rcases hc with hd|⟨rows,cP,hn,hb⟩;.exact .inl (h.dead id hd)
  .obtain⟨r2,e2,l2⟩:=h.cv id rows s cP;grind|_=>exact r
theorem uc.Ik{id:Nat}{rows:List (List V)}(I:St):uc I (I.map (mP id rows)):=by
 refine⟨λi n s h=>?_,λi rs s h=>⟨_,by rw[B9,h];rfl,sM⟩,λi h=>?_⟩;.rw[B9,h];rfl
 .rw[B9,h];rfl
theorem wy6{c:Ctx}{L':Nat->Nat}{id s n lo m:Nat}{rows:List (List V)}{x:Value}(hm:Mem c w L I J)(cP:I[id]?=some (.cv rows s))(hp:xB rows)(hL:∀b n' cap,J[id]?=some (.slice (some ⟨b,0,none⟩) n' cap)->0<cap->rows.length*s<=L' b)(hle:Le w L w L')(r:il w L I J (.cS id s n lo m) x)(hn:n=rows.length)(aw:lo+m<=n):cM w L' (.sl .ro (wU rows lo m)) x:=by
 obtain⟨a,cap,rfl,ax,ab,hc⟩:=r;have ak:(wU rows lo m).length=m:=by grind[wU]
 by_cases h0:m=0
 .subst h0;have:wU rows lo 0=[]:=by rfl
  rw[this];exact .jI _ _ _ sM sM
 rcases hc with hd|⟨cI,ad,ay,hb⟩;.grind
 .rw[cP]at ad;cases ad;obtain⟨b0,c0,dD,dG,az,aa⟩:=hb hn;clear hb ab;have a1:0<m:=om;have al:lo<c0:=om;obtain⟨k0,rfl,rfl⟩:=aa al;clear aa;have ae:0<c0:=om;have a6:=hL _ _ _ dD ae;obtain⟨a2,au,e1,av,af,an,cZ⟩:=hm.dE id _ _ cP dD;cases e1;obtain⟨b',arr,T,fz,e2,hh,_,a7,_,ah⟩:=cZ ae;cases e2;clear cZ;have hu:eU s (wU rows lo m):=λq hq=>by obtain⟨q0,a8,rfl⟩:=Ab.1 hq;grind
  have ao:=yE hu;rw[ak]at ao;have aq:(lo+m)*s<=rows.length*s:=Ak _ om;rw[B5]at aq;have key:cM w L' (.sl .ro (wU rows lo m)) (.slice (some ⟨k0,lo*s,none⟩) (wU rows lo m).length cap):=by
   refine .of_flat af hu (by grind) om sM sM λk v hk=>?_;have aA:k<m*s:=by grind
   have hi:k/s<m:=by simp_all[C9]
   have hj:k%s<s:=Cw _ af;have ar:k=k/s*s+k%s:=by grind[Cx]
   rw[ar,yS _ _ hu hj]at hk;simp only[wU,B9,An,alq hi,Cb]at hk;have ai:lo+k/s<rows.length:=om;rw[A0 ai]at hk;simp only[Bf,Av,B9,As]at hk;obtain⟨v0,aB,rfl⟩:=hk;have hf:rows.flatten[(lo+k/s)*s+k%s]?=some v0:=by rw[yS _ _ an hj,A0 ai];grind
   obtain⟨z,hz,rz⟩:=ah.get _ _ hf;have aj:(lo+k/s)*s+k%s=lo*s+k:=by grind
   rw[aj,An,alq om,Ao]at hz;refine⟨z,by simp only[World.cell?,hh];grind,?_⟩;refine(dy.lS rz ?_).mono hle;unfold xB at hp;grind
  grind
def jc(J:alY)(id k:Nat)(L:Nat->Nat):Nat->Nat:=match J[id]?with |some (.slice (some a) _ cap)=>if 0<cap then xQ L a.block k else L|_=>L
theorem SB{c:Ctx}{id s:Nat}{rows:List (List V)}(hm:Mem c w L I J)(cP:I[id]?=some (.cv rows s))(hp:xB rows):Mem c w (jc J id (rows.length*s) L) (jG id rows I) J/\Le w L w (jc J id (rows.length*s) L)/\Ext I J (jG id rows I) J/\(∀v x,dP w L I J v x->dP w (jc J id (rows.length*s) L) (jG id rows I) J (fO id rows v) x):=by
 have aq:id<I.length:=(by grind);obtain⟨x0,dD⟩:∃x0,J[id]?=some x0:=⟨_,A0 (by rw[hm.len];exact aq)⟩;obtain⟨a,cap,rfl,dG,hs,aC,cZ⟩:=hm.dE id _ _ cP dD;have aD:rows.length*s<=cap*s:=Ak _ dG;have hle:Le w L w (jc J id (rows.length*s) L):=by refine⟨λb=>?_,sM⟩;unfold jc;rw[dD];cases a with |none=>simp|some a=>
   by_cases h0:0<cap;.obtain⟨b',arr,T,fz,e,hh,hf,ai,hl,aA⟩:=cZ h0;cases e;simp only[h0,alB,xQ];grind
   grind
 have ad:Ext I J (I.set id .dead) J:=by refine⟨sM,(by grind),(by grind),(by grind)⟩;all_goals grind
 have ab:uc (I.set id .dead) (jG id rows I):=uc.Ik _;have ae:Ext (I.set id .dead) J (jG id rows I) J:=⟨sM,λi n s' h=>⟨n,ab.app i n s' h,om,λ_=>rfl⟩,λi rs s' h=>by obtain⟨r2,h2,l2⟩:=ab.cv i rs s' h;grind,λi h=>ab.dead i h⟩;have ar:∀b n' aa,J[id]?=some (.slice (some ⟨b,0,none⟩) n' aa)->0<aa->rows.length*s<=jc J id (rows.length*s) L b:=(by simp_all[jc,xQ]);have an:∀v x,il w L I J v x->il w (jc J id (rows.length*s) L) (jG id rows I) J (fH id rows v) x:=λv x r=>by have au:il w (jc J id (rows.length*s) L) (jG id rows I) J v x:=il.NV ab (r.mono hle ad);cases v with
  |cS i s' n lo m=>
   simp only[fH];split
   .rename_i hc;obtain⟨rfl,hn,av⟩:=hc;have af:s'=s:=by obtain⟨_,_,_,_,_,hc⟩:=r;grind
    subst af;exact wy6 hm cP hp ar hle r hn av
   omega|_=>exact au
 have aw:∀v x,dy w L I J v x->dy w (jc J id (rows.length*s) L) (jG id rows I) J (fN id rows v) x:=λv x r=>by cases v with
  |fn f cd=>obtain⟨xs,hx,hc⟩:=r;exact⟨xs,hx,(by grind[bP.gp])⟩|iw t v=>obtain⟨y,hx,hc⟩:=r;exact⟨y,hx,(by grind[bP.gp])⟩|cS i s' n lo m=>
   have h2:=an (.cS i s' n lo m) x r;show dy w _ _ J (fH id rows (.cS i s' n lo m)) x;simp only[fH]at h2⊢;split;.rename_i hc;rw[alq hc]at h2;exact h2
   .rename_i hc;rw[alp hc]at h2;exact h2|_=>simp only[dy]at r;have h2:=an _ _ r;exact h2
 have ax:∀v x,eI w L I J v x->eI w (jc J id (rows.length*s) L) (jG id rows I) J (fX id rows v) x:=λv x r=>by cases v with |agg cs=>obtain⟨xs,hx,hc⟩:=r;exact⟨xs,hx,(by grind[bP.gp])⟩|_=>simp only[eI]at r;have h2:=aw _ _ r;exact eI.dX h2
 have ay:∀v x,dP w L I J v x->dP w (jc J id (rows.length*s) L) (jG id rows I) J (fO id rows v) x:=λv x r=>by cases v with|u=>trivial|cC vs=>obtain⟨xs,hx,hc⟩:=r;exact⟨xs,hx,(by grind[bP.gp])⟩|_=>simp only[dP]at r;have h2:=ax _ _ r;exact dP.lR h2
 refine⟨?_,hle,ad.trans ae,ay⟩;have aj:∀b,dt (.cv rows s) (.slice a rows.length cap)≠some b->jc J id (rows.length*s) L b=L b:=λb h=>by unfold jc;rw[dD];cases a with |none=>rfl|some a=>
   by_cases h0:0<cap;.simp_all[dt,xQ];omega
   grind
 have aE:∀i o x,i≠id->I[i]?=some o->J[i]?=some x->iy w (jc J id (rows.length*s) L) (jG id rows I) J (mP id rows o) x:=λi o x hi ho hx=>by have hr:=hm.dE i o x ho hx;have ak:∀b,dt o x=some b->jc J id (rows.length*s) L b=L b:=λb hb=>aj b λq=>hm.apart i id o _ x _ b hi ho hx cP dD hb q;cases o with
  |box cells=>obtain⟨b,arr,T,fz,rfl,hh,hf,hl,hc⟩:=hr;exact⟨b,arr,T,fz,rfl,hh,hf,(ak b rfl).trans hl,(by grind[bP.gp])⟩|app n s'=>obtain⟨a',aa,rfl,hn,af,ah⟩:=hr;refine⟨a',aa,rfl,hn,af,λaz=>?_⟩;obtain⟨b,o',arr,T,fz,rfl,hh,hf,ai,hl⟩:=ah az;exact⟨b,o',arr,T,fz,rfl,hh,hf,ai,(by grind[dt])⟩|cv rs s'=>
   obtain⟨a',aa,rfl,hn,af,aF,ah⟩:=hr;refine⟨a',aa,sM,by grind,af,λr hr=>?_,λh0=>?_⟩;.grind
   .obtain⟨b,arr,T,fz,rfl,hh,hf,ai,hl,hc⟩:=ah h0;refine⟨b,arr,T,fz,rfl,hh,hf,ai,(by grind[dt]),?_⟩;grind[bP.gp]|dead=>trivial|mp dZ gH dm=>obtain⟨b,es,rfl,hh,hl,hc,a1⟩:=hr;exact⟨b,es,rfl,hh,(ak b rfl).trans hl,(by grind[bP.gp]),a1⟩|it m since seen last=>obtain⟨b,mo,rfl,hh,hl,hc⟩:=hr;exact⟨b,mo,rfl,hh,(ak b rfl).trans hl,hc⟩
 have inv:∀i o,(jG id rows I)[i]?=some o->(i=id/\o=.dead)\/(i≠id/\∃o',I[i]?=some o'/\o=mP id rows o'):=λi o h=>by
  unfold jG at h;rw[B9,As]at h;obtain⟨o',h1,rfl⟩:=h;rcases pH h1 with⟨rfl,rfl,_⟩|⟨al,h2⟩;.exact .inl (by trivial)
  grind
 have ao:∀o x,dt (mP id rows o) x=dt o x:=λo x=>by cases o with
  |cv rs s'=>cases x with|slice a n cap=>cases a<;>rfl|_=>rfl
  |_=>cases x<;>first|rfl|(rename_i q;cases q<;>rfl)
 refine⟨by simp[jG,hm.len],λi o x ho hx=>?_,λi j o o' x x' b a6 ho hx a7 a8 hb=>?_,λi o x b ho hx hb=>?_,λb hb hx=>?_,hm.le.trans hle,hm.size,hm.os,hm.tape,hm.output,hm.drawn,λb hb=>?_,hm.ext.trans (ad.trans ae),hm.jV⟩
 .rcases inv i o ho with⟨_,rfl⟩|⟨al,o',h2,rfl⟩;.trivial
  grind
 .rcases inv i o ho with⟨_,rfl⟩|⟨al,o1,h2,rfl⟩;.trivial
  .rcases inv j o' a7 with⟨_,rfl⟩|⟨aB,o2,h3,rfl⟩;.simp[dt]
   .rw[ao]at hb⊢;exact hm.apart i j o1 o2 x x' b a6 h2 hx h3 a8 hb
 .rcases inv i o ho with⟨_,rfl⟩|⟨al,o1,h2,rfl⟩;.trivial
  .rw[ao]at hb;exact hm.gA i o1 x b h2 hx hb
 .obtain⟨e1,e2⟩:=hm.same b hb hx;refine⟨e1,?_⟩;rw[aj b λq=>?_];.exact e2
  .rcases hm.gA id _ _ b cP dD q with h|h;all_goals grind
 .rw[aj b λq=>?_];.exact hm.lim b hb
  .have:=(hm.dE id _ _ cP dD).fh q;omega
end
variable{c:Ctx}{I:St}{cells:List V}{L:Nat->Nat}{J:alY}{off:Nat}
theorem SD{w:World}{id s:Nat}(hm:Mem c w L I J)(hs:0<s)(cP:I[id]?=some (.box cells))(hc:cells[off]?=some (.sl .full [])):∃x,Mem c w L (I.set id (.box (cells.set off (.cS I.length s 0 0 0)))++[.cv [] s]) (J++[x])/\Ext I J (I.set id (.box (cells.set off (.cS I.length s 0 0 0)))++[.cv [] s]) (J++[x]):=by
 have ah:id<I.length:=(by grind);obtain⟨x0,dD⟩:∃x0,J[id]?=some x0:=⟨_,A0 (by rw[hm.len];exact ah)⟩;obtain⟨b,arr,T,fz,rfl,hh,hf,hl,ab⟩:=hm.dE id _ _ cP dD;obtain⟨y,hy,ry⟩:=ab.get _ _ hc;have an:cM w L (.sl .full []) y:=ry;obtain⟨a,cap,ak,_,dG⟩:=an.len;have ad:=dG rfl;simp only[Cy]at ad ak;subst ad;have h1:=hm.mM (s:=s) (a:=a) hs;have ae:=Ext.push I J hm.len (.cv [] s) (.slice a 0 0);have ai:(I++[Ob.cv [] s])[id]?=some (.box cells):=by grind
 have aj:(J++[Value.slice a 0 0])[id]?=some (.pointer (some ⟨b,0,none⟩)):=by grind
 have aa:Ext (I++[Ob.cv [] s]) (J++[Value.slice a 0 0]) ((I++[Ob.cv [] s]).set id (.box (cells.set off (.cS I.length s 0 0 0)))) (J++[Value.slice a 0 0]):=Ext.j8 ai _;have af:=yP _ _ _ aj;have key:=h1.ft (w':=w) (L':=L) id (.box (cells.set off (.cS I.length s 0 0 0))) (.pointer (some ⟨b,0,none⟩)) (Le.refl _ _) (by grind) (λk=>k=b) (λj o' x' k hj ao aq hk e=>by subst e;exact h1.apart j id o' _ x' _ k hj ao aq ai aj hk rfl) (λk e=>by subst e;exact h1.gA id _ _ k ai aj rfl) sM rfl rfl rfl rfl h1.lim ?_ (λk hk=>by simpa[dt]using hk.symm);.rw[af,Dv _ _ ah]at key;rw[Dv _ _ ah]at aa;exact⟨_,key,ae.trans aa⟩
 .rw[af];refine⟨b,arr,T,fz,rfl,hh,hf,hl,?_⟩;refine bP.of (by rw[Dn];exact ab.length) λk p z hp hz=>?_;rcases pH hp with⟨rfl,rfl,_⟩|⟨au,ar⟩
  .rw[hy]at hz;cases hz;rw[ak];refine⟨a,0,rfl,om,om,.inr ⟨[],?_,om,λ_=>⟨a,0,?_,rfl,om,om⟩⟩⟩;.grind
   .rw[<-hm.len];simp
  .obtain⟨z',al,rz⟩:=ab.get _ _ ar;rw[hz]at al;cases al;exact rz.mono (Le.refl _ _) (ae.trans aa)
theorem wg8{w:World}{id s:Nat}(hm:Mem c w L I J)(hs:0<s)(cP:I[id]?=some (.box cells))(hc:cells[off]?=some (.sl .full [])):∃x,Mem c w L (I.set id (.box (cells.set off (.sl (.app I.length) [])))++[.app 0 s]) (J++[x])/\Ext I J (I.set id (.box (cells.set off (.sl (.app I.length) [])))++[.app 0 s]) (J++[x]):=by
 have ah:id<I.length:=(by grind);obtain⟨x0,dD⟩:∃x0,J[id]?=some x0:=⟨_,A0 (by rw[hm.len];exact ah)⟩;obtain⟨b,arr,T,fz,rfl,hh,hf,hl,ab⟩:=hm.dE id _ _ cP dD;obtain⟨y,hy,ry⟩:=ab.get _ _ hc;have an:cM w L (.sl .full []) y:=ry;obtain⟨a,cap,ak,_,dG⟩:=an.len;have ad:=dG rfl;simp only[Cy]at ad ak;subst ad;have h1:=hm.own (n:=0) (a:=a) hs;have ae:=Ext.push I J hm.len (.app 0 s) (.slice a 0 0);have ai:(I++[Ob.app 0 s])[id]?=some (.box cells):=by grind
 have aj:(J++[Value.slice a 0 0])[id]?=some (.pointer (some ⟨b,0,none⟩)):=by grind
 have aa:Ext (I++[Ob.app 0 s]) (J++[Value.slice a 0 0]) ((I++[Ob.app 0 s]).set id (.box (cells.set off (.sl (.app I.length) [])))) (J++[Value.slice a 0 0]):=Ext.j8 ai _;have af:=yP _ _ _ aj;have key:=h1.ft (w':=w) (L':=L) id (.box (cells.set off (.sl (.app I.length) []))) (.pointer (some ⟨b,0,none⟩)) (Le.refl _ _) (by grind) (λk=>k=b) (λj o' x' k hj ao aq hk e=>by subst e;exact h1.apart j id o' _ x' _ k hj ao aq ai aj hk rfl) (λk e=>by subst e;exact h1.gA id _ _ k ai aj rfl) sM rfl rfl rfl rfl h1.lim ?_ (λk hk=>by simpa[dt]using hk.symm);.rw[af,Dv _ _ ah]at key;rw[Dv _ _ ah]at aa;exact⟨_,key,ae.trans aa⟩
 .rw[af];refine⟨b,arr,T,fz,rfl,hh,hf,hl,?_⟩;refine bP.of (by rw[Dn];exact ab.length) λk p z hp hz=>?_;rcases pH hp with⟨rfl,rfl,_⟩|⟨au,ar⟩
  .rw[hy]at hz;cases hz;rw[ak];refine⟨.jI .ro a 0 om sM,0,s,?_,om,λ_=>?_,sM⟩;.grind
   .rw[<-hm.len];simp
  .obtain⟨z',al,rz⟩:=ab.get _ _ ar;rw[hz]at al;cases al;exact rz.mono (Le.refl _ _) (ae.trans aa)
def Ew(cells:List V)(s off n:Nat):List (List V):=(List.range n).map λi=>((cells.drop (off+i*s)).take s).map lS
def x9(id:Nat)(cells:List V):V->V |.kF i s off n=>if i=id/\0<s/\off+n*s<=cells.length/\((cells.drop off).take (n*s)).all o7=true then .sl .ro (Ew cells s off n)else .kF i s off n|v=>v
theorem yP6{s n:Nat}(h:off+n*s<=cells.length):eU s (Ew cells s off n):=λr hr=>by obtain⟨i,hi,rfl⟩:=Ab.1 hr;have hi:=Cs.1 hi;have:(i+1)*s<=n*s:=Ak _ hi;grind
theorem wh5{w:World}{id:Nat}(hm:Mem c w L I J)(cP:I[id]?=some (.box cells)):∃L',Mem c w L' (I.set id .dead) J/\Le w L w L'/\Ext I J (I.set id .dead) J/\(∀v x,dP w L I J v x->dP w L' (I.set id .dead) J (x9 id cells v) x):=by
 have ak:id<I.length:=(by grind);obtain⟨x0,dD⟩:∃x0,J[id]?=some x0:=⟨_,A0 (by rw[hm.len];exact ak)⟩;obtain⟨b,arr,T,fz,rfl,hh,hf,hl,ae⟩:=hm.dE id _ _ cP dD;have hle:Le w L w (xQ L b cells.length):=by refine⟨λk=>?_,sM⟩;simp only[xQ];grind
 have aa:Ext I J (I.set id .dead) J:=by refine⟨sM,(by grind),(by grind),(by grind)⟩;all_goals grind
 have ab:∀k,k≠b->xQ L b cells.length k=L k:=λk h=>alp h;have inv:∀i o,(I.set id .dead)[i]?=some o->(i=id/\o=.dead)\/(i≠id/\I[i]?=some o):=(by grind);refine⟨xQ L b cells.length,⟨by simp[hm.len],λi o x ho hx=>?_,λi j o o' x x' k al ho hx an ao hb=>?_,λi o x k ho hx hb=>?_,λk hb hx=>?_,hm.le.trans hle,hm.size,hm.os,hm.tape,hm.output,hm.drawn,λk hb=>?_,hm.ext.trans aa,hm.jV⟩,hle,aa,λv x r=>?_⟩
 .rcases inv i o ho with⟨_,rfl⟩|⟨ad,h2⟩;.trivial
  .exact(hm.dE i o x h2 hx).step hle aa λk hk=>⟨rfl,ab k λe=>by subst e;exact hm.apart i id o _ x _ k ad h2 hx cP dD hk rfl⟩
 .rcases inv i o ho with⟨_,rfl⟩|⟨ad,h2⟩;.trivial
  .rcases inv j o' an with⟨_,rfl⟩|⟨au,h3⟩;.simp[dt]
   .exact hm.apart i j o o' x x' k al h2 hx h3 ao hb
 .rcases inv i o ho with⟨_,rfl⟩|⟨ad,h2⟩;.trivial
  .exact hm.gA i o x k h2 hx hb
 .obtain⟨e1,e2⟩:=hm.same k hb hx;refine⟨e1,?_⟩;rw[ab k λq=>?_];.exact e2
  .subst q;rcases hm.gA id _ _ k cP dD rfl with h|h;all_goals grind
 .rw[ab k λq=>?_];.exact hm.lim k hb
  grind
 .have aq:=r.mono hle aa;cases v with
  |kF i s off n=>
   simp only[x9];split
   .rename_i hc;obtain⟨rfl,hs,hlen,hp⟩:=hc;obtain⟨b',af,rfl⟩:=r;rw[dD]at af;cases af;have hu:=yP6 (s:=s) (off:=off) (n:=n) hlen;have ah:(Ew cells s off n).length=n:=by simp[Ew]
    have key:cM w (xQ L b cells.length) (.sl .ro (Ew cells s off n)) (.slice (some ⟨b,off,none⟩) (Ew cells s off n).length n):=by
     refine .of_flat hs hu (by grind[xQ]) om sM om λk v hk=>?_;have av:k<n*s:=by rw[<-ah,<-yE hu];grind
     have hi:k/s<n:=by simp_all[C9]
     have hj:k%s<s:=Cw _ hs;have ar:k=k/s*s+k%s:=by grind[Cx]
     rw[ar,yS _ _ hu hj]at hk;simp only[Ew,B9,Dh hi,Bf,Av,An,alq hj,Cb,As]at hk;obtain⟨v0,ai,rfl⟩:=hk;have aj:off+k/s*s+k%s=off+k:=om;rw[aj]at ai;obtain⟨z,hz,rz⟩:=ae.get _ _ ai;rw[Ao]at hz;refine⟨z,by simp only[World.cell?,hh];grind,(dy.lS rz ?_).mono hle⟩;rw[Am]at hp;refine hp _ (Aq.2 ⟨k,?_⟩);grind
    rw[ah]at key;simpa
   omega|_=>exact aq
inductive pf:List V->St->List V->St->Prop|refl(vs:List V)(I:St):pf vs I vs I|step(id s:Nat)(rows:List (List V)){vs iA:List V}{I I':St}(cP:I[id]?=some (.cv rows s))(hp:xB rows)(h:pf (vs.map (fO id rows)) (jG id rows I) iA I'):pf vs I iA I'|nil(id off s:Nat)(cells:List V){vs iA:List V}{I I':St}(hs:0<s)(cP:I[id]?=some (.box cells))(hc:cells[off]?=some (.sl .full []))(h:pf vs (I.set id (.box (cells.set off (.cS I.length s 0 0 0)))++[.cv [] s]) iA I'):pf vs I iA I'|box(id:Nat)(cells:List V){vs iA:List V}{I I':St}(cP:I[id]?=some (.box cells))(h:pf (vs.map (x9 id cells)) (I.set id .dead) iA I'):pf vs I iA I'|NW(i s:Nat){vs iA:List V}{I I':St}(hs:0<s)(hv:vs[i]?=some (.sl .full []))(h:pf (vs.set i (.cS I.length s 0 0 0)) (I++[.cv [] s]) iA I'):pf vs I iA I'
theorem pf.ok{w:World}{vs iA:List V}{I':St}(h:pf vs I iA I'):∀{L:Nat->Nat}{J xs:alY},Mem c w L I J->bP (dP w L I J) vs xs->∃L' J',Mem c w L' I' J'/\Le w L w L'/\Ext I J I' J'/\bP (dP w L' I' J') iA xs:=by induction h with |refl vs I=>grind[Le.refl,Ext.refl]|step id s rows cP hp _ ih=>intro L J xs hm ha;obtain⟨h1,h2,h3,h4⟩:=SB hm cP hp;obtain⟨L',J',h5,h6,h7,h8⟩:=ih h1 (bP.gp (f:=fO id rows) (λ_ _ q=>h4 _ _ q) ha);exact⟨L',J',h5,h2.trans h6,h3.trans h7,h8⟩|nil id off s cells hs cP hc _ ih=>intro L J xs hm ha;obtain⟨x,h1,h2⟩:=SD hm hs cP hc;obtain⟨L',J',h5,h6,h7,h8⟩:=ih h1 (ha.imp λ_ _ q=>q.mono (Le.refl _ _) h2);exact⟨L',J',h5,h6,h2.trans h7,h8⟩|box id cells cP _ ih=>intro L J xs hm ha;obtain⟨L1,h1,h2,h3,h4⟩:=wh5 hm cP;obtain⟨L',J',h5,h6,h7,h8⟩:=ih h1 (bP.gp (f:=x9 id cells) (λ_ _ q=>h4 _ _ q) ha);exact⟨L',J',h5,h2.trans h6,h3.trans h7,h8⟩|NW i s hs hv _ ih=>
  rename_i ab ae s0 s1 _;intro L J xs hm ha;obtain⟨x,hx,r⟩:=ha.get _ _ hv;have hr:cM w L (.sl .full []) x:=r;obtain⟨ad,rfl⟩:∃ad,x=.slice ad 0 0:=by cases hr<;>grind
  have h1:=hm.mM (a:=ad) hs;have aa:=Ext.push _ _ hm.len (Ob.cv [] s) (.slice ad 0 0);have h2:bP (dP w L (s0++[Ob.cv [] s]) (J++[.slice ad 0 0])) (ab.set i (.cS s0.length s 0 0 0)) xs:=by
   refine bP.of (by rw[Dn];exact ha.length) λj p y hp hy=>?_;rcases pH hp with⟨rfl,rfl,_⟩|⟨_,hp⟩;.rw[hx]at hy;cases hy;exact Ih (w':=w) (L':=L) (s:=s) (rows:=[]) (cap:=0) (a0:=ad) hm.len sM om
   .obtain⟨z,hz,rz⟩:=ha.get _ _ hp;rw[hy]at hz;cases hz;exact rz.mono (Le.refl _ _) aa
  obtain⟨L',J',h5,h6,h7,h8⟩:=ih h1 h2;exact⟨L',J',h5,h6,aa.trans h7,h8⟩
def flatK:V->Bool|.bool _|.int _ _|.str _|.gv|.u=>true|.raw _=>true|.sl _ rows=>rows.isEmpty|_=>false
def KN:V->Bool|.agg cs=>cs.all flatK|v=>flatK v
def Im:V->Bool|.cC vs=>vs.all KN|v=>KN v
section
variable{w w':World}{L L':Nat->Nat}{I I':St}{J J':alY}
variable {x:Value}
theorem SF{v:V}(h:flatK v)(r:dy w L [] [] v x):dy w' L' I' J' v x:=by cases v with
 |sl g rows=>
  have hr:rows=[]:=by grind[flatK]
  subst hr;cases g with
  |app id=>obtain⟨_,n,s,h,_⟩:=r;grind|ro=>cases r with |jI _ a cap hg ha=>exact cM.jI _ _ _ hg ha|sl _ _ s b o cap c ha hs hlen fD dG hg hc hr=>exact cM.jI _ _ _ om om
  |full=>cases r with |jI _ a cap hg ha=>exact cM.jI _ _ _ hg ha|sl _ _ s b o cap c ha hs hlen fD dG hg hc hr=>exact cM.jI _ _ _ hg om
 |bool b=>cases r;exact cM.bool _|int k n=>cases r;exact cM.int _ _|str s=>cases r;exact cM.str _|gv=>cases r;exact cM.gv|raw v=>cases r with|raw _ h=>exact cM.raw _ h
 |u=>exact r|_=>simp[flatK]at h
theorem SG{v:V}(h:KN v)(r:eI w L [] [] v x):eI w' L' I' J' v x:=by cases v with
 |agg cs=>obtain⟨xs,hx,hc⟩:=r;refine⟨xs,hx,?_⟩;clear hx;simp only[KN]at h;induction cs generalizing xs with |nil=>cases xs<;>simpa|cons c cs ih=>cases xs with|nil=>simpa|cons y ys=>simp only[Az,Aa]at h;exact⟨SF h.1 hc.1,ih h.2 _ hc.2⟩
 |cC vs=>simpa|fn f c=>trivial|iw t c=>trivial|_=>exact eI.dX (SF (w:=w) (L:=L) h r)
theorem xR8{v:V}(h:Im v)(r:dP w L [] [] v x):dP w' L' I' J' v x:=by cases v with
 |cC vs=>obtain⟨xs,hx,hc⟩:=r;refine⟨xs,hx,?_⟩;clear hx;simp only[Im]at h;induction vs generalizing xs with |nil=>cases xs<;>simpa|cons c cs ih=>cases xs with |nil=>simpa|cons y ys=>simp only[Az,Aa]at h;exact⟨SG h.1 hc.1,ih h.2 _ hc.2⟩
 |u=>trivial|_=>exact dP.lR (SG (w:=w) (L:=L) h r)
end
theorem VC.view{P:Program}{c:Ctx}{f:FuncId}{cd args ct af:List V}{Ic I1:St}{R:V->St->Prop}{K:V->St->Prop}(hc:bN P f ct [] R)(hb:xI P f)(hf:pf (args++cd) Ic af I1)(aa:bP (cW (cO [] I1.length)) ct af)(hR:∀r s,R r s->s=[]/\Im r)(hk:∀r,R r []->K r Ic):VC P c (.fn f cd) args Ic K:=by
 refine⟨f,cd,rfl,.inl ⟨KL hb,λw L Jc ab hm hv=>?_⟩⟩;obtain⟨L1,J1,aj,a6,au,ak⟩:=hf.ok hm hv;have al:tY (cO [] I1.length) [] [] I1 J1:=by
  have aq:∀id,I1.length<=cO [] I1.length id:=λid=>by simp[cO]
  refine⟨λid x hx=>?_,λid n s hx=>?_,λid rows s hx=>?_,λid hx=>?_⟩;.have h1:=(A3.1 hx).1;have h2:=aq id;rw[aj.len]at h1;omega
  all_goals have h1:=(A3.1 hx).1;have h2:=aq id;omega
 have av:Mem (entry w L1 [] []) w L1 [] []:=⟨rfl,λi o x ho _=>by simp at ho,λi j o o' x x' b _ ho _ _ _ _=>by simp at ho,λi o x b ho _ _=>by simp at ho,λb _ _=>⟨rfl,rfl⟩,Le.refl _ _,A7 _,rfl,rfl,rfl,A7 _,aj.lim,Ext.refl _ _,aj.jV.mono aj.le⟩;have aw:bP (dP w L1 [] []) ct ab:=by clear hf hc hk;induction ct generalizing af ab with
  |nil=>cases af with
   |nil=>cases ab with|nil=>trivial|cons _ _=>exact ak.elim
   |cons _ _=>exact aa.elim
  |cons p ct ih=>cases af with |nil=>exact aa.elim|cons q az=>cases ab with|nil=>exact ak.elim|cons y ys=>
     refine⟨BP al aa.1 ak.1,?_⟩;clear ih;have key:∀(ct az:List V)(ys:alY),bP (cW (cO [] I1.length)) ct az->bP (dP w L1 I1 J1) az ys->bP (dP w L1 [] []) ct ys:=by intro ct;induction ct with
      |nil=>intro az ys h1 h2;cases az with
       |nil=>cases ys with |nil=>trivial|cons _ _=>exact h2.elim
       |cons _ _=>exact h1.elim
      |cons p l ih=>intro az ys h1 h2;cases az with |nil=>exact h1.elim|cons q az=>cases ys with |nil=>exact h2.elim|cons y ys=>exact⟨BP al h1.1 h2.1,ih az ys h1.2 h2.2⟩
     exact key _ _ _ aa.2 ak.2
 refine(hc w L1 [] ab av aw).mono λe w' ⟨v,r,L2,I',J',he,ar,a7,ad,ax⟩=>?_;obtain⟨rfl,an⟩:=hR r I' ar;have ay:J'=[]:=B3 (by rw[ad.len];rfl);subst ay;have ae:∀b,b<w.heap.size->w'.heap[b]?=w.heap[b]?:=λb hb=>(ad.same b hb (by show b∉vM [] [];simp[vM])).1;have a1:w.heap.size<=w'.heap.size:=ad.size;let L3:Nat->Nat:=λb=>if b<w.heap.size then L b else L2 b;have ao:∀b,b<w.heap.size->L3 b=L b:=λb hb=>alq hb;have ah:Le w L w' L3:=by
  refine⟨λb=>?_,λb o ho=>?_⟩
  .by_cases hb:b<w.heap.size;.rw[ao b hb];exact A7 _
   .rw[hm.lim b om];exact A5 _
  .have hb:b<w.heap.size:=by
    rcases C3 b w.heap.size with hb|hb;.exact hb
    .rw[hm.lim b hb]at ho;omega
   exact Ei (ae b hb) o
 refine⟨v,r,L3,Ic,Jc,he,hk r ar,?_,ah,Ext.refl _ _,xR8 an ax⟩;refine⟨hm.len,λi o x ho hx=>(hm.dE i o x ho hx).step ah (Ext.refl _ _) λb hb=>?_,hm.apart,hm.gA,λb hb hx=>?_,hm.le.trans ah,Ax hm.size a1,ad.os.trans hm.os,ad.tape.trans hm.tape,ad.output.trans hm.output,Ax hm.drawn ad.drawn,λb hb=>?_,hm.ext,hm.jV⟩;.have ai:=(hm.dE i o x ho hx).fh hb;exact⟨ae b ai,ao b ai⟩
 .have ai:=Dk hb hm.size;rw[ae b ai,ao b ai];exact hm.same b hb hx
 .show(if b<w.heap.size then L b else L2 b)=0;rw[alp om];exact ad.lim b hb
def cx(P:Program)(e:Env)(I:St):Op->R |.move x=>.ok (zI e x)|.assign x=>.ok (zI e x)|.pick x y z=>AR (zI e x) (zI e y) (zI e z)|.alloc t=>sW P t I|.box _ x=>xv I (zI e x)|.build t ps=>AX (xF P t) (fb P t) (ps.toList.map λp=>(p.1,zI e p.2))|.buildSlice t n ps=>xy ((eV P t).map (·.1)) n (ps.toList.map λp=>(p.1,zI e p.2))|.load t x=>nW P t I (zI e x)|.store t x y=>vI P t I (zI e x) (zI e y)|.nilCheck x=>AS (zI e x)|.binOp op t x y _=>if qR y=true then xu op (jl P t) (zI e x)else if sY y=true then BK op (nY P t) (zI e x)else nG op (jl P t) (kZ P t) (zI e x) (zI e y)|.unOp op _ x=>nV op (zI e x)|.convert t t' x=>xz (j9 P t) (j9 P t') (zI e x)|.slice t x lo hi none=>tW (ja P t) (dU P t) ((eV P t).map (·.1)) (zI e x) (lo.map (zI e)) (hi.map (zI e))|.slice t x (some lo) (some hi) (some mx)=>AZ ((eV P t).map (·.1)) (zI e x) (zI e lo) (zI e hi) (zI e mx)|.fieldAddr t x f=>AU P t (zI e x) f|.field t x f=>BB (cu P t f) (zI e x)|.indexAddr t x i=>xw (fm P t) (ja P t) (zI e x) (zI e i)|.index t x i=>xx (zI e x) (zI e i) (rA P t) (ja P t)|.extract x i=>AT (zI e x) i|.makeFunc fn first cd=>BC fn first.size (cd.toList.map (zI e))|.makeSlice t l m=>x5 (eV P t) (jJ P t) I (zI e l) (zI e m)|.call ⟨.builtin .len,⟨[x]⟩,⟨[t]⟩⟩=>AW (dU P t) (zI e x)|.call ⟨.builtin .append,⟨[x,y]⟩,⟨[t,t']⟩⟩=>tS (eV P t) (dU P t') I (zI e x) (zI e y)|.call ⟨.builtin .clear,⟨[x]⟩,⟨[t]⟩⟩=>x7 ((eV P t).map (·.1)) (jJ P t) I (zI e x)|.call ⟨.builtin .min,⟨xs⟩,_⟩=>rC false (xs.map (zI e))|.call ⟨.builtin .max,⟨xs⟩,_⟩=>rC true (xs.map (zI e))|.call ⟨.builtin .delete,⟨[x,k]⟩,⟨[t,_]⟩⟩=>BJ (gU P t) I (zI e x) (zI e k)|.makeMap t r=>BH I (nY P t) (r.map (zI e))|.lookup t x k ok=>wI (gU P t) I (zI e x) (zI e k) ok|.mapUpdate t x k v=>wC (gU P t) I (zI e x) (zI e k) (zI e v)|.insert t x k v=>wC (gU P t) I (zI e x) (zI e k) (zI e v)|.mapEntry t x k=>wL (gU P t) I (zI e x) (zI e k)|.entryStore _ x s v=>xZ I (zI e x) (zI e s) (zI e v)|.range t x=>BM (nY P t) I (zI e x)|.entry x=>rF I (zI e x)|.makeInterface t x=>BO (Gq P t) t (zI e x)|.next x false=>nZ false I (zI e x)|_=>.fail
def iM(P:Program)(e:Env)(I:St):Op->R |.buildSlice t n ps=>x8 ((eV P t).map (·.1)) n I (ps.toList.map λp=>(p.1,zI e p.2))|.makeSlice t l m=>x6 (eV P t) (jJ P t) I (zI e l) (zI e m)|.convert t t' x=>BD (j9 P t) (j9 P t') I (zI e x)|.slice t x (some lo) none none=>AY (dU P t) ((eV P t).map (·.1)) I (zI e x) (zI e lo)|.call ⟨.builtin .append,⟨[x,y]⟩,⟨[t,t']⟩⟩=>tT (eV P t) (dU P t') I (zI e x) (zI e y)|.next x false=>nZ true I (zI e x)|op=>cx P e I op
def mD(e:Env)(d:Option Tmp):Bool:=match d with|some t=>(match e (100000+t)with|.cC []=>true|_=>false)|none=>false
def wD(P:Program)(d:Option Tmp)(e:Env)(I:St)(op:Op):R:=if mD e d=true then iM P e I op else cx P e I op
section
variable{P:Program}{c:Ctx}{nt:Nat}{e:Env}{I:St}{a:Act}{w:World}{L:Nat->Nat}{J:alY}
theorem SH(o:Oper)(h:ez c nt e I a w L J):fG (cx P e I o.op) I (bT P c o a w L I J):=by
 obtain⟨dst,op,ty,pos,eK,g⟩:=o;show fG (cx P e I op) I _;unfold cx;split;.grind[ZQ]
 .grind[ZR]
 .grind[ZP]
 .grind[Z9]
 .grind[Z8]
 .grind[xW6]
 .grind[yu5]
 .grind[Z6]
 .grind[Z7]
 .grind[ZS]
 .grind[ZZ,xG8,ZX]
 .grind[Z0]
 .grind[wm0]
 .grind[xX5]
 .grind[xG9]
 .grind[Z2]
 .grind[xX0]
 .grind[xk2]
 .grind[wz6]
 .grind[Z1]
 .grind[wm1]
 .grind[wm3]
 .grind[wz8]
 .grind[xG2]
 .grind[xW7]
 .grind[R6]
 .grind[R6]
 .grind[xG4]
 .grind[xk3]
 .grind[xG7]
 .grind[yI2]
 .grind[xG5]
 .grind[yX4]
 .grind[yu6]
 .grind[xX4]
 .grind[xW9]
 .grind[wz7]
 .grind[Sy]
 .trivial
theorem xQ8(o:Oper)(h:ez c nt e I a w L J):fG (wD P o.dst e I o.op) I (bT P c o a w L I J):=by
 unfold wD;split
 .obtain⟨dst,op,ty,pos,eK,g⟩:=o;show fG (iM P e I op) I _;unfold iM;split;.grind[yp6]
  .grind[xX1]
  .grind[xW8]
  .grind[xH0]
  .grind[xk0]
  .grind[Sy]
  .exact SH ⟨dst,op,ty,pos,eK,g⟩ h
 grind[SH]
def fy(nt:Nat)(d:Option Tmp)(v:V)(K:Env->St->Prop)(e:Env)(I:St):Prop:=match d with |some t=>t<nt/\K (ft e t v) I|none=>K e I
def KO (p q:Prop):Prop:=p/\q
def mQ(nt:Nat)(d:Option Tmp)(r:R)(K:Env->St->Prop)(e:Env)(I:St):Prop:=match r with |.fail=>False|.ok v=>fy nt d v K e I|.eP p v=>KO p (fy nt d v K e I)|.st v I'=>fy nt d v K e I'|.dR p v I'=>KO p (fy nt d v K e I')|.all f=>∀b,fy nt d (f b) K e I|.any l=>∀p∈l,fy nt d p.1 K e p.2
def jX(P:Program)(c:Ctx)(nt:Nat)(d:Option Tmp)(op:Op)(K:Env->St->Prop)(e:Env)(I:St):Prop:=match op with |.call ⟨.value f,args,_⟩=>VC P c (zI e f) (args.toList.map (zI e)) I (λv I'=>fy nt d v K e I')|op=>mQ nt d (wD P d e I op) K e I
def lg(x:V)(want:Bool)(A B:Prop):Prop:=match x with|.bool b=>(b=want->A)/\(b≠want->B)|.cC []=>B|_=>False
def kH(ops:List Oper)(j:Nat):Option Tmp:=(ops[j]?).bind (·.dst)
def vN(g:Option (Nat×Bool))(ops:List Oper)(e:Env)(A B:Prop):Prop:=match g with |none=>A|some (j,want)=>(match kH ops j with|some t=>lg (e t) want A B|none=>False)
def kI(P:Program)(c:Ctx)(nt:Nat)(ops:List Oper):List Oper->(Env->St->Prop)->Env->St->Prop |[],K,e,I=>K e I|o::rest,K,e,I=>vN o.guard ops e (jX P c nt o.dst o.op (kI P c nt ops rest K) e I) (fy nt o.dst (.cC []) (kI P c nt ops rest K) e I)
theorem ez.put(h:ez c nt e I a w L J){w':World}{L':Nat->Nat}{I':St}{J':alY}{v:V}{x:Value}(hm:Mem c w' L' I' J')(hle:Le w L w' L')(aa:Ext I J I' J')(r:dP w' L' I' J' v x)(d:Option Tmp)(hd:∀t,d=some t->t<nt):ez c nt (match d with|some t=>ft e t v|none=>e) I' (a.put d x) w' L' J':=by cases d with |none=>exact⟨hm,h.size,h.defs,λt=>(h.env t).mono hle aa⟩|some d=>
  refine⟨hm,by simp[Act.put,h.size],by simp[Act.put,h.defs],λt=>?_⟩;have ab:=hd d rfl;simp only[ft,Act.put];by_cases ht:t=d
  .subst ht;rw[alq rfl];have:(a.tmps.setIfInBounds t x).getD t undef=x:=by simp[Array.getD,h.size,ab]
   grind
  .rw[alp ht];have:(a.tmps.setIfInBounds d x).getD t undef=a.tmps.getD t undef:=by have ad:¬d=t:=(by grind);simp_all
   rw[this];exact(h.env t).mono hle aa
def fY(c:Ctx)(nt:Nat)(Q:Exit->Env->St->Prop):Exit->Act->World->Prop|.panic _,_,_|.outgrown,_,_|.goto _,_,_=>False|x,a,w=>∃e I L J,ez c nt e I a w L J/\Q x e I
def VW(P:Program)(c:Ctx)(nt:Nat)(code:Code)(Q:Exit->Env->St->Prop)(e:Env)(I:St):Prop:=∀a w L J,ez c nt e I a w L J->code.wp P (fY c nt Q) a w
theorem Gs(h:ez c nt e I a w L J){w':World}{L':Nat->Nat}{I':St}{J':alY}{v:V}{x:Value}(hm:Mem c w' L' I' J')(hle:Le w L w' L')(aa:Ext I J I' J')(r:dP w' L' I' J' v x){d:Option Tmp}{K:Env->St->Prop}(hK:fy nt d v K e I'):∃e',ez c nt e' I' (a.put d x) w' L' J'/\K e' I':=by cases d with |none=>exact⟨e,h.put hm hle aa r none sM,hK⟩|some t=>exact⟨ft e t v,h.put hm hle aa r (some t) (λt' q=>by cases q;exact hK.1),hK.2⟩
theorem KP(o:Oper){K:Env->St->Prop}{next:Act->World->Prop}{Q:Exit->Act->World->Prop}(h:ez c nt e I a w L J)(hK:jX P c nt o.dst o.op K e I)(hn:∀e' I' a' w' L' J',ez c nt e' I' a' w' L' J'->K e' I'->next a' w'):o.wp P a w next Q:=by
 have fin:∀{r:R},fG r I (bT P c o a w L I J)->mQ nt o.dst r K e I->o.wp P a w next Q:=by
  intro r hr hv;have done:∀{v I'},bT P c o a w L I J v I'->fy nt o.dst v K e I'->o.wp P a w next Q:=by
   rintro v I' ⟨x,w',L',J',mR,hm,hle,ud,Ex⟩hp;obtain⟨e',hs,hk⟩:=Gs h hm hle ud Ex hp;unfold Oper.wp;rcases mR with mR|⟨mR,rfl⟩;.rw[mR];exact hn _ _ _ _ _ _ hs hk
   .rw[mR];exact hn _ _ _ _ _ _ hs hk
  cases r with |fail=>exact hv.elim|ok v=>exact done hr hv|eP p v=>exact done (hr hv.1) hv.2|st v I'=>exact done hr hv|dR p v I'=>exact done (hr hv.1) hv.2|all f=>obtain⟨b,hr⟩:=hr;exact done hr (hv b)|any l=>obtain⟨p,hp,hr⟩:=hr;exact done hr (hv p hp)
 unfold jX at hK;split at hK
 .rename_i f args ts KQ;obtain⟨SI,cd,hf,hK⟩:=hK;have SJ:=h.eval f;rw[hf]at SJ;obtain⟨xs,hx,Io⟩:=SJ;have BQ:bP (dP w L I J) (args.toList.map (zI e)++cd) (args.toList.map a.eval++xs):=by
   refine bP.append ?_ (Io.imp λp q r=>?_);.generalize args.toList=l;induction l with|nil=>trivial|cons p l ih=>exact⟨h.eval p,ih⟩
   .exact dP.dX (by cases p<;>first|exact r|exact r.elim)
  rcases hK with⟨⟨fn,NX,ue,uf⟩,n5⟩|n5
  .have mR:(execOp a.eval o).run P w=.ok (.enter SI (args.toList.map a.eval++xs).toArray) w:=by
    obtain⟨dst,op,ty,pos,eK,g⟩:=o;simp only at KQ;subst KQ;have NY:¬fn.body=none:=by intro q;simp[q]at uf
    have Ip:¬fn.name="runtime.NumGoroutine":=sU ue;have Iq:(Array.map a.eval args++xs.toArray)=(args.toList.map a.eval++xs).toArray:=by apply Array.ext';simp
    simp[execOp,resolve,hx,Deferred.ofValue,invoke,callFunc,NX,Ip,NY,Iq]
   unfold Oper.wp;rw[mR];show Calls P SI _ w _;refine(n5 w L J _ h.mem BQ).mono ?_;rintro en w' ⟨v,r,L',I',J',rfl,hp,hm,hle,ud,Ex⟩;obtain⟨e',hs,hk⟩:=Gs h hm hle ud Ex hp;exact hn _ _ _ _ _ _ hs hk
  .obtain⟨v,r,w',L',I',J',hrv,hp,hm,hle,ud,Ex⟩:=n5 w L J _ h.mem BQ;have mR:(execOp a.eval o).run P w=.ok (.value v) w':=by
    obtain⟨dst,op,ty,pos,eK,g⟩:=o;simp only at KQ;subst KQ;have Iq:(Array.map a.eval args++xs.toArray)=(args.toList.map a.eval++xs).toArray:=by apply Array.ext';simp
    simp[execOp,resolve,hx,Deferred.ofValue,invoke,Iq,hrv]
   obtain⟨e',hs,hk⟩:=Gs h hm hle ud Ex hp;unfold Oper.wp;rw[mR];exact hn _ _ _ _ _ _ hs hk
 .exact fin (xQ8 o h) hK
theorem SK{ops:List Oper}{j:Nat}{t:Tmp}(ht:kH ops j=some t)(hv:dP w L I J (.cC []) (a.tmps.getD t undef)):yielded ops.toArray a.tmps j=none:=by
 obtain⟨xs,hx,ab⟩:=hv;have ad:xs=[]:=by cases xs with |nil=>rfl|cons x xs=>exact ab.elim
 subst ad;unfold yielded;unfold kH at ht;have ae:(ops.toArray[j]?).bind (·.dst)=some t:=sU ht;rw[ae];simp only[Av];by_cases aa:t<a.tmps.size;.rw[B4 aa];simp[Array.getD,aa]at hx;rw[hx]
 .rw[Array.getElem?_eq_none (Nat.le_of_not_lt aa)]
theorem NZ{ops:List Oper}{Q:Exit->Act->World->Prop}:∀(l:List Oper)(K:Env->St->Prop)(e:Env)(I:St)(a:Act)(w:World)(L:Nat->Nat)(J:alY),ez c nt e I a w L J->kI P c nt ops l K e I->(∀e' I' a' w' L' J',ez c nt e' I' a' w' L' J'->K e' I'->Q .normal a' w')->wpList P ops.toArray Q l a w
 |[],K,e,I,a,w,L,J,h,hK,hn=>hn _ _ _ _ _ _ h hK|o::rest,K,e,I,a,w,L,J,h,hK,hn=>by
  have ih:=NZ (ops:=ops) (Q:=Q) rest K;have yes:jX P c nt o.dst o.op (kI P c nt ops rest K) e I->o.wp P a w (wpList P ops.toArray Q rest) Q\/(o.asks P a w/\LetsOut Q):=λhv=>.inl (KP o h hv λe' I' a' w' L' J' hs hk=>ih e' I' a' w' L' J' hs hk hn);have no:fy nt o.dst (.cC []) (kI P c nt ops rest K) e I->wpList P ops.toArray Q rest (a.put o.dst undef) w:=λhv=>by obtain⟨e',hs,hk⟩:=Gs h h.mem (Le.refl _ _) (Ext.refl _ _) (show dP w L I J (.cC []) undef from⟨[],rfl,tV⟩) hv;exact ih e' I _ _ _ _ hs hk hn
  unfold kI at hK;unfold wpList;unfold vN at hK;split at hK;.rename_i hg;rw[alq (by simp[Region.wanted,hg])];exact yes hK
  .rename_i j want hg;split at hK
   .rename_i t ht;have hv:=h.env t;unfold lg at hK;split at hK
    .rename_i b hb;rw[hb]at hv;have hv:=qQ hv;have hy:yielded ops.toArray a.tmps j=some b:=by
      unfold yielded;unfold kH at ht;have ad:(ops.toArray[j]?).bind (·.dst)=some t:=sU ht;rw[ad];simp only[Av];have ab:t<a.tmps.size:=by
       rcases C3 t a.tmps.size with q|q;.exact q
       .simp[Array.getD,Nat.not_lt.2 q,undef]at hv
      rw[B4 ab];simp[Array.getD,ab]at hv;rw[hv]
     by_cases aa:b=want;.rw[alq (by simp[Region.wanted,hg,hy,aa])];exact yes (hK.1 aa)
     .rw[alp (by simp[Region.wanted,hg,hy,aa])];exact no (hK.2 aa)
    .rename_i hb;rw[hb]at hv;rw[alp (by simp[Region.wanted,hg,SK ht hv])];exact no hK
    .exact hK.elim
   .exact hK.elim
def Ir(x:V)(A B:Prop):Prop:=match x with|.bool b=>(b=true->A)/\(b=false->B)|_=>False
def N0(K:Env->St->Prop)(Q:Exit->Env->St->Prop):Exit->Env->St->Prop|.normal,e,I=>K e I|x,e,I=>Q x e I
def Ey(id:Nat)(Q:Exit->Env->St->Prop):Exit->Env->St->Prop |.exit ug,e,I=>if ug=id then Q .normal e I else Q (.exit ug) e I|x,e,I=>Q x e I
def rH(P:Program)(c:Ctx)(nt:Nat):Code->(Exit->Env->St->Prop)->Env->St->Prop |.skip,Q,e,I=>Q .normal e I|.seq x y,Q,e,I=>rH P c nt x (N0 (rH P c nt y Q) Q) e I|.cond x t f,Q,e,I=>Ir (zI e x) (rH P c nt t Q e I) (rH P c nt f Q e I)|.block id b,Q,e,I=>rH P c nt b (Ey id Q) e I|.exit id,Q,e,I=>Q (.exit id) e I|.ret,Q,e,I=>Q .ret e I|.label _,Q,e,I=>Q .normal e I|.region id ops draw,Q,e,I=>if draw then VW P c nt (.region id ops true) Q e I else kI P c nt ops.toList ops.toList (Q .normal) e I|.loop b,Q,e,I=>VW P c nt (.loop b) Q e I|_,_,_,_=>False
theorem sZ:∀(code:Code)(Q:Exit->Env->St->Prop)(e:Env)(I:St),rH P c nt code Q e I->VW P c nt code Q e I
 |.skip,Q,e,I,h=>λa w L J hs=>wp_skip ⟨e,I,L,J,hs,h⟩|.seq x y,Q,e,I,h=>λa w L J hs=>by refine wp_seq (wp_mono (sZ x _ e I h a w L J hs) λex a' w' q=>?_);cases ex with |normal=>obtain⟨e',I',L',J',aa,hq⟩:=q;exact sZ y Q e' I' hq a' w' L' J' aa|exit id=>exact q|goto l=>exact q|ret=>exact q|panic ch=>exact q|outgrown=>exact q
 |.cond x t f,Q,e,I,h=>λa w L J hs=>by
  unfold rH Ir at h;split at h;.rename_i b hb;have hv:=hs.eval x;rw[hb]at hv;exact wp_cond_split (qQ hv) (λad=>sZ t Q e I (h.1 ad) a w L J hs) (λae=>sZ f Q e I (h.2 ae) a w L J hs)
  .exact h.elim|.block id b,Q,e,I,h=>λa w L J hs=>by refine wp_block (wp_mono (sZ b _ e I h a w L J hs) λex a' w' q=>?_);cases ex with
  |exit ab=>
   obtain⟨e',I',L',J',aa,hq⟩:=q;change(if ab=id then Q .normal e' I' else Q (.exit ab) e' I')at hq;change(if ab=id then fY c nt Q .normal a' w' else fY c nt Q (.exit ab) a' w');split;.rename_i hid;rw[alq hid]at hq;exact⟨e',I',L',J',aa,hq⟩
   .rename_i hid;rw[alp hid]at hq;exact⟨e',I',L',J',aa,hq⟩|normal=>exact q|goto l=>exact q|ret=>exact q|panic ch=>exact q|outgrown=>exact q
 |.exit id,Q,e,I,h=>λa w L J hs=>wp_exit ⟨e,I,L,J,hs,h⟩|.ret,Q,e,I,h=>λa w L J hs=>wp_ret ⟨e,I,L,J,hs,h⟩|.label _,Q,e,I,h=>λa w L J hs=>wp_label ⟨e,I,L,J,hs,h⟩|.region id ops draw,Q,e,I,h=>λa w L J hs=>by unfold rH at h;cases draw with|true=>exact h a w L J hs|false=>refine wp_region_list (ops:=ops) ?_;have:=NZ (P:=P) (ops:=ops.toList) (Q:=fY c nt Q) ops.toList (Q .normal) e I a w L J hs (sU h) λe' I' a' w' L' J' aa hk=>⟨e',I',L',J',aa,hk⟩;simpa using this
 |.loop b,Q,e,I,h=>h|.rangeFunc _ _ _ _,_,_,_,h=>h.elim|.scope _,_,_,_,h=>h.elim|.goto _,_,_,_,h=>h.elim|.refuse _,_,_,_,h=>h.elim
end
end Go.Vx
