/-
  The code of a function at the level of trees: operations one behind the other, branches, blocks, loops, the call itself.
  No condition: a library text; nothing of the program is named.
-/
import Derived.Test.YtefbicjgbaaieaaGreatLAB
import Derived.Maps.RangeRun
set_option maxHeartbeats 8000000
namespace Go.Vx
open Go
theorem Ext.ig{U:St}{I:ail}{i:Nat}{o0:Ob}(hi:U[i]?=some o0)(h1:∀n s,o0≠.app n s)(h2:∀r s,o0≠.cj r s)(h3:o0≠.dead)(o:Ob):Ext U I (U.set i o) I:=by refine⟨sm,(by grind),(by grind),(by grind)⟩;all_goals grind
section
variable{c:Ctx}{w:World}{L:Nat->Nat}{U:St}{I:ail}
theorem Mem.sR(h:Mem c w L U I)(ob:Go.Obj)(o:Ob)(ho:Le w L (w.alloc ob) L->Ext U I (U++[o]) (I++[.pointer (some ⟨w.heap.size,0,none⟩)])->gN (w.alloc ob) L (U++[o]) (I++[.pointer (some ⟨w.heap.size,0,none⟩)]) o (.pointer (some ⟨w.heap.size,0,none⟩)))(hex:∀b,cP o (.pointer (some ⟨w.heap.size,0,none⟩))=some b->b=w.heap.size):Mem c (w.alloc ob) L (U++[o]) (I++[.pointer (some ⟨w.heap.size,0,none⟩)])/\Le w L (w.alloc ob) L:=by
 have h1:=h.alloc ob 0;rw[ID h]at h1;refine⟨h1.1.push _ _ (ho h1.2 (Ext.push U I h.len _ _)) ?_ ?_,h1.2⟩;.intro i o' x' b hi hx hb e;have h2:=(h.cW i o' x' hi hx).eH hb;grind
 .intro b hb;rw[hex b hb];exact .inl h.size
theorem Mem.jY(h:Mem c w L U I){i b:Nat}{o0 o:Ob}(hi:U[i]?=some o0)(dd:I[i]?=some (.pointer (some ⟨b,0,none⟩)))(aa:cP o0 (.pointer (some ⟨b,0,none⟩))=some b)(h0:L b=0)(ob:Go.Obj)(ae:Ext U I (U.set i o) I)(hex:∀k,cP o (.pointer (some ⟨b,0,none⟩))=some k->k=b)(cK:Le w L (yU w b ob) L->gN (yU w b ob) L (U.set i o) I o (.pointer (some ⟨b,0,none⟩))):Mem c (yU w b ob) L (U.set i o) I/\Le w L (yU w b ob) L:=by
 have hle:Le w L (yU w b ob) L:=by refine⟨om,λk o ho=>BQ (yg w b k _ λq=>?_) o⟩;grind
 refine⟨?_,hle⟩;have af:=yQ I i _ dd;have key:=h.fe (w':=yU w b ob) (L':=L) i o (.pointer (some ⟨b,0,none⟩)) hle (by grind) (λk=>k=b) (λj o' x' k hj ab ad hk e=>by subst e;exact h.apart j i o' _ x' _ k hj ab ad hi dd hk aa) (λk e=>by subst e;exact h.fO i _ _ k hi dd aa) (λk hk=>⟨yg w b k _ hk,rfl⟩) (by simp[yU]) rfl rfl rfl h.lim (by grind) om;grind
end
theorem bM.ny{J I:Type}{R:J->I->Prop}:∀{l:List J}{m:List I}{b:I},bM R l m->b∈m->∃a∈l,R a b
 |a::l,b'::m,b,h,hb=>by
  rcases Ag.1 hb with rfl|hb;.exact⟨a,sm,h.1⟩
  .obtain⟨a',ha,r⟩:=bM.ny h.2 hb;grind|[],[],_,_,hb=>by grind|[],_::_,_,h,_=>h.elim|_::_,[],_,h,_=>h.elim
section
variable{P:Program}{c:Ctx}{nt:Nat}{e:Env}{U:St}{a:Act}{w:World}{L:Nat->Nat}{I:ail}{o:Oper}
variable{x:Value}{dst:Option Tmp}{ty:TypeId}{dU:Array Edge}{g:Option (Nat×Bool)}{p:V}{kt:TypeId}{t:TypeId}{y:Value}{k:Pk}{dD:List V}
theorem EN{v:V}(r:dj w L U I v x)(h:nu v):dT w L U I v x:=by cases v<;>first|exact r|simp[nu]at h
def jK:TypeDesc->Option Pk |.bool=>some .b|.int k=>some (.i k)|.string=>some .s|_=>none
inductive Kk where|one(k:Pk)|st(ks:List Pk)
def EO(P:Program):Nat->List Field->Option (List Pk) |_,[]=>some []|i,f::fs=>if f.name≠"_"/\f.offset=i/\cQ P f.type=some false then((P.underlying f.type).bind jK).bind λk=>(EO P (i+1) fs).map (k::·)else none
def y5(P:Program)(kt:TypeId):Option Kk:=match P.underlying kt with |some (.struct fs)=>(EO P 0 fs.toList).bind λks=>if vx P 10 kt=some ks then some (.st ks)else none|some d=>(jK d).map .one|none=>none
def IN(P:Program)(t:TypeId):Option V:=match(P.info? t).bind (·.zero)with |some (.agg cs)=>if cs.all (·.oneCell')=true then some (.agg (cs.toList.map jf))else none|some v=>if v.oneCell'=true then some (jf v)else none|none=>none
def gq(P:Program)(t:TypeId):Option (Kk×V):=match P.underlying t with |some (.map kt et)=>(y5 P kt).bind λk=>(IN P et).map λz=>(k,z)|_=>none
theorem XE{z:V}(h:IN P t=some z):∃i zv,P.info? t=some i/\i.zero=some zv/\nu z=true/\∀(w:World) L U I,dT w L U I z zv:=by unfold IN at h;cases hi:P.info? t with |none=>grind|some i=>cases hz:i.zero with |none=>grind|some zv=>
   simp only[hi,hz,An]at h;refine⟨i,zv,rfl,hz,?_⟩;split at h
   .rename_i cs aa;cases aa;split at h;.rename_i ha;simp only[ahT]at h;subst h;refine⟨rfl,λw L U I=>⟨cs.toList,sm,(Lw λv hv=>?_).imp λ_ _=>cU.de⟩⟩;exact Cj.1 ha v (by grind)
    grind
   .rename_i v ab hv;cases hv;split at h;.rename_i h1;simp only[ahT]at h;subst h;have hc:yi (jf zv):=(Gx (w:=default) (L:=λ_=>0) zv h1).2;refine⟨?_,(by grind[dT.dv,cU.de,Gx])⟩;revert hc;generalize jf zv=q0;cases q0<;>simp[yi,nu]
    grind
   grind
theorem GK{k:Kk}{z:V}(h:gq P t=some (k,z)):∃kt et i zv,P.underlying t=some (.map kt et)/\y5 P kt=some k/\P.info? et=some i/\i.zero=some zv/\nu z=true/\∀(w:World) L U I,dT w L U I z zv:=by
 unfold gq at h;split at h;.rename_i kt et hu;cases hk:y5 P kt with|none=>grind|some k'=>cases hz:IN P et with|none=>grind|some z'=>simp only[hk,hz,An,Bi,ahT,ai1]at h;obtain⟨rfl,rfl⟩:=h;grind[XE]
 grind
def l6:Pk->V->Bool |.b,.bool _=>true|.i k,.int k' _=>decide (k'=k)|.s,.str _=>true|_,_=>false
def lI:List Pk->List V->Bool|[],[]=>true|k::ks,v::vs=>l6 k v&&lI ks vs|_,_=>false
def nf:Kk->V->Bool|.one k,v=>l6 k v|.st ks,.agg vs=>lI ks vs|_,_=>false
theorem y6{d:TypeDesc}{v:V}(hk:jK d=some k)(h:l6 k v)(r:dj w L U I v x):MapKept.IsKey d x:=by
 cases k<;>cases v<;>simp[l6]at h;.rw[pU r];cases d<;>simp[jK]at hk<;>trivial
 .rw[yS r];cases d<;>simp[jK]at hk;subst hk;exact h
 .rw[lF r];cases d<;>simp[jK]at hk<;>trivial
theorem PY(em:Bool)(xs:ail)(w:World):∀(fs:List Field)(i:Nat)(ks:List Pk)(vs:List V),EO P i fs=some ks->lI ks vs=true->bM (cU w L U I) vs (xs.drop i)->∀f∈fs,f.name≠"_"/\∃x,(part f.type xs.toArray f.offset).run P w=.ok x w/\(Instr.checkKey em 9999 f.type x).run P w=.ok () w
 |[],_,_,_,_,_,_,_,hf=>by cases hf|f::fs,i,ks,vs,h,LC,ha,f',LD=>by
  unfold EO at h;split at h;.rename_i hc;obtain⟨h1,h2,h3⟩:=hc;cases hu:P.underlying f.type with|none=>grind|some d=>cases hk:jK d with|none=>grind|some k=>simp only[hu,hk,An,Ar]at h;obtain⟨XF,h4,rfl⟩:=h;cases vs with|nil=>trivial|cons v vs=>
      simp only[lI,A8]at LC;have hlen:=ha.length;have PZ:i<xs.length:=by grind
      rw[A2 PZ]at ha;rcases Ag.1 LD with rfl|LD
      .have hp:(part f'.type xs.toArray f'.offset).run P w=.ok xs[i] w:=by simp_all[part,ur]
       exact⟨h1,_,hp,MapKept.run_checkKey (P:=P) (w:=w) hu (y6 hk LC.1 (dj.dv ha.1)) em 9998⟩
      .exact PY em xs w fs (i+1) XF vs h4 LC.2 ha.2 f' LD
  grind
theorem GL{kk:Kk}(hk:y5 P kt=some kk)(aa:nf kk p)(hx:dj w L U I p x)(em:Bool):(Instr.checkKey em 10000 kt x).run P w=.ok () w:=by
 unfold y5 at hk;split at hk;.rename_i fs hu;cases hf:EO P 0 fs.toList with |none=>grind|some ks=>
   simp only[hf,An]at hk;split at hk;.simp only[ahT]at hk;subst hk;cases p<;>simp[nf]at aa;obtain⟨xs,rfl,ha⟩:=hx;have each:=PY (P:=P) em xs w fs.toList 0 ks _ hf aa ha;rw[show(10000:Nat)=9999+1from rfl,Instr.checkKey];simp only[Sem.run_bind,run_underlying hu,Result.andThen_ok];rw[<-Array.forIn_toList];clear hf hu;generalize fs.toList=M at each;induction M with |nil=>simp|cons f M ih=>obtain⟨hn,x,p1,p2⟩:=each f sm;simp_all
   grind
 .rename_i d ab hu;cases hd:jK d with |none=>grind|some k=>simp only[hd,Bi,ahT]at hk;subst hk;exact MapKept.run_checkKey hu (y6 hd aa hx) em 9999
 grind
def kS:Kk->V->V->Option Bool|.one k,x,y=>jJ k x y|.st ks,.agg x,.agg y=>lG ks x y|_,_,_=>none
def oC(k:Kk)(x:V):List V->Nat->Option (Option (Nat×V)) |kk::vv::rest,i=>(match kS k x kk with |some true=>some (some (i,vv))|some false=>oC k x rest (i+1)|none=>none)|[],_=>some none|[_],_=>none
theorem P1{d:TypeDesc}{v:V}{r:Bool}(hk:jK d=some k)(hx:dj w L U I p x)(hy:dj w L U I v y)(h:jJ k p v=some r):Instr.sameNow d x y=some r:=by
 cases k;.cases p<;>cases v<;>simp[jJ]at h;subst h;rw[pU hx,pU hy];cases d<;>simp[jK]at hk;rfl
 .cases p<;>cases v<;>simp[jJ]at h;obtain⟨⟨rfl,rfl⟩,rfl⟩:=h;rw[yS hx,yS hy];cases d<;>simp[jK]at hk;simp[Instr.sameNow]
 .cases p<;>cases v<;>simp[jJ]at h;subst h;rename_i s1 s2;rw[lF hx,lF hy];cases d<;>simp[jK]at hk;simp only[Instr.sameNow,ahT];have e1:((⟨s1.toArray⟩:ByteArray)==⟨s2.toArray⟩)=(s1.toArray==s2.toArray):=rfl;grind
theorem LF{k:Kk}{p:V}(M:List MapEntry->Nat->Option (Nat×Value)->Prop)(h0:∀i,M [] i none)(hT:∀v(e:MapEntry) es i,dT w L U I v e.key->kS k p v=some true->M (e::es) i (some (i,e.val)))(hF:∀v(e:MapEntry) es i r,dT w L U I v e.key->kS k p v=some false->M es (i+1) r->M (e::es) i r):∀(dD:List V)(es:List MapEntry)(i:Nat)(q:Option (Nat×V)),bM (dT w L U I) dD (es.flatMap λe=>[e.key,e.val])->oC k p dD i=some q->(q=none/\M es i none)\/∃(j:Nat)(v:V)(e:MapEntry),q=some (i+j,v)/\M es i (some (i+j,e.val))/\es[j]?=some e/\dD[2*j+1]?=some v/\dT w L U I v e.val/\(∃kk,dD[2*j]?=some kk/\kS k p kk=some true)
 |[],[],i,q,_,h=>by grind[oC]|[],e::es,_,_,ha,_=>by trivial|[_],[],_,_,ha,_=>by trivial|[_],e::es,_,_,_,h=>by trivial|_::_::_,[],_,_,ha,_=>by trivial|kk::vv::dD,e::es,i,q,ha,h=>by
  simp only[Bu,Bg,C0,bM]at ha;obtain⟨h1,h2,h3⟩:=ha;rw[oC]at h;split at h;.rename_i he;simp only[ahT]at h;exact .inr ⟨0,vv,e,h.symm,(by grind),rfl,rfl,h2,kk,rfl,he⟩
  .rename_i he;rcases LF M h0 hT hF dD es (i+1) q h3 h with⟨e1,e2⟩|⟨j,v,e',e1,e2,e3,e4,e5,aa,e6,e7⟩;.grind
   .rw[show i+1+j=i+(j+1)by omega]at e1 e2;refine .inr ⟨j+1,v,e',e1,(by grind),by grind,?_,e5,aa,?_,e7⟩;all_goals grind
  grind
theorem P3{fs:Array Field}{es:List MapEntry}{r:Option (Nat×Value)}(hu:P.underlying kt=some (.struct fs))(h:(Instr.findAsking kt x es 0).run P w=.ok r w):(Instr.findKey kt x es).run P w=.ok r w:=by cases es<;>simp_all[Instr.findAsking,Instr.findKey,run_underlying,Instr.findNow,Instr.sameNow]
theorem y7{kk:Kk}(hk:y5 P kt=some kk)(ab:nf kk p)(hx:dj w L U I p x){es:List MapEntry}{q:Option (Nat×V)}(ha:bM (dT w L U I) dD (es.flatMap λe=>[e.key,e.val]))(hf:oC kk p dD 0=some q):(q=none/\(Instr.findKey kt x es).run P w=.ok none w)\/∃(j:Nat)(v:V)(e:MapEntry),q=some (j,v)/\(Instr.findKey kt x es).run P w=.ok (some (j,e.val)) w/\es[j]?=some e/\dD[2*j+1]?=some v/\dT w L U I v e.val/\(∃k',dD[2*j]?=some k'/\kS kk p k'=some true):=by
 unfold y5 at hk;split at hk;.rename_i fs hu;cases ad:EO P 0 fs.toList with |none=>grind|some ks=>
   simp only[ad,An]at hk;split at hk
   .rename_i ae;simp only[ahT]at hk;subst hk;cases p<;>simp[nf]at ab;rename_i vs;obtain⟨xs,rfl,af⟩:=hx;have ah:∀(us:List V)(ys:ail),bM (cU w L U I) us ys->∀z∈ys,z.oneCell'=true:=λus ys h z hz=>by obtain⟨i,hi,rfl⟩:=List.mem_iff_getElem.1 hz;obtain⟨a,_,r⟩:=bM.ny h om;exact r.dF
    have aa:∀ys:ain,oT P kt (.agg ys):=λys=>by unfold oT;rw[ahP (by unfold cQ;rw[hu];rfl)];simp
    have heq:∀(v:V)(y:Value)(r:Bool),dT w L U I v y->kS (.st ks) (.agg vs) v=some r->(Op.equal kt (.agg xs.toArray) y).run P w=.ok r w:=by intro v y r hr he;cases v<;>simp[kS]at he;rename_i us;obtain⟨ys,rfl,ag⟩:=hr;have ai:=Lp ks vs us xs ys r af ag he;exact Lq 10 kt ks ae 10000 om _ _ r (aa _) (aa _) (by grind[Value.cells]) (by grind[Value.cells]) (by simpa) w
    rcases LF (w:=w) (L:=L) (U:=U) (I:=I) (k:=.st ks) (p:=.agg vs) (λes i r=>(Instr.findAsking kt (.agg xs.toArray) es i).run P w=.ok r w) (by simp[Instr.findAsking]) (λv e es i h1 h2=>by simp[Instr.findAsking,heq v _ _ h1 h2]) (λv e es i r h1 h2 h3=>by simp[Instr.findAsking,heq v _ _ h1 h2,h3]) dD es 0 q ha hf with⟨e1,e2⟩|⟨j,v,e',e1,e2,e3⟩;.grind[P3]
    .rw[Ab]at e1 e2;grind[P3]
   grind
 .rename_i d aj hu;cases hd:jK d with |none=>grind|some k=>
   simp only[hd,Bi,ahT]at hk;subst hk;rcases LF (w:=w) (L:=L) (U:=U) (I:=I) (k:=.one k) (p:=p) (λes i r=>Instr.findNow d x es i=some r) (λi=>rfl) (λv e es i h1 h2=>by simp[Instr.findNow,P1 hd hx (dj.lD h1) h2]) (λv e es i r h1 h2 h3=>by simp[Instr.findNow,P1 hd hx (dj.lD h1) h2,h3]) dD es 0 q ha hf with⟨e1,e2⟩|⟨j,v,e',e1,e2,e3⟩;.grind[MapKept.run_findKey]
   .rw[Ab]at e1 e2;grind[MapKept.run_findKey]
 grind
theorem P4{v:V}(hx:dj w L U I p x)(hy:dj w L U I v y)(h:jJ k p v=some true):x=y:=by
 cases k<;>cases p<;>cases v<;>simp[jJ]at h;.rw[pU hx,pU hy,h]
 .obtain⟨⟨rfl,rfl⟩,rfl⟩:=h;rw[yS hx,yS hy]
 .rw[lF hx,lF hy,h]
theorem P5:∀(ks:List Pk)(us vs:List V)(xs ys:ail),bM (cU w L U I) us xs->bM (cU w L U I) vs ys->lG ks us vs=some true->xs=ys
 |[],[],[],[],[],_,_,_=>rfl|k::ks,u'::us,v::vs,x::xs,y::ys,h1,h2,h=>by unfold lG at h;cases hk:jJ k u' v with|none=>grind|some r0=>simp only[hk,An,Ar]at h;obtain⟨r',h3,h4⟩:=h;simp only[A8]at h4;obtain⟨rfl,rfl⟩:=h4;rw[P4 (dj.dv h1.1) (dj.dv h2.1) hk,P5 ks us vs xs ys h1.2 h2.2 h3]
 |[],[],[],[],_::_,_,h2,_=>h2.elim|[],[],[],_::_,_,h1,_,_=>h1.elim|[],[],_::_,_,_,_,_,h=>by cases h|[],_::_,_,_,_,_,_,h=>by cases h|_::_,[],_,_,_,_,_,h=>by cases h|_::_,_::_,[],_,_,_,_,h=>by cases h|_::_,_::_,_::_,[],_,h1,_,_=>h1.elim|_::_,_::_,_::_,_::_,[],_,h2,_=>h2.elim
theorem P6{k:Kk}{v:V}(hx:dj w L U I p x)(hy:dj w L U I v y)(h:kS k p v=some true):x=y:=by cases k with|one k=>exact P4 hx hy h|st ks=>cases p<;>cases v<;>simp[kS]at h;obtain⟨xs,rfl,h1⟩:=hx;obtain⟨ys,rfl,h2⟩:=hy;grind[P5]
theorem XG{ks:List Pk}:∀{vs:List V}{xs:ail},lI ks vs=true->bM (cU w L U I) vs xs->∀z∈xs,∃d,MapKept.IsKey d z:=by induction ks with
 |nil=>intro vs xs h ha;cases vs with
  |nil=>cases xs with|nil=>simp|cons _ _=>trivial
  |cons _ _=>trivial
 |cons k ks ih=>intro vs xs h ha z hz;cases vs with |nil=>trivial|cons v vs=>cases xs with|nil=>grind|cons x xs=>
    simp only[lI,A8]at h;rcases Ag.1 hz with rfl|hz
    .have hr:=dj.dv (U:=U) (I:=I) ha.1;cases k;.exact⟨.bool,y6 rfl h.1 hr⟩
     .exact⟨.int _,y6 rfl h.1 hr⟩
     .exact⟨.string,y6 rfl h.1 hr⟩
    .exact ih h.2 ha.2 z hz
theorem P7{kk:Kk}(aa:nf kk p)(hx:dj w L U I p x):(Instr.keyThatStays x x).run P w=.ok x w:=by cases kk with
 |one k=>
  cases k;.exact MapKept.run_keyThatStays (y6 (d:=.bool) rfl aa hx)
  .exact MapKept.run_keyThatStays (y6 (d:=.int _) rfl aa hx)
  .exact MapKept.run_keyThatStays (y6 (d:=.string) rfl aa hx)|st ks=>
  cases p<;>simp[nf]at aa;obtain⟨xs,rfl,ha⟩:=hx;have hs:Instr.sameBits 10000 (.agg xs.toArray) (.agg xs.toArray):=by show Instr.sameBits (9999+1) (.agg xs.toArray) (.agg xs.toArray)=true;simp only[Instr.sameBits,beq_self_eq_true,Ah,Aj];rintro⟨a,b⟩hp;obtain⟨i,hi,e⟩:=List.mem_iff_getElem.1 hp;simp only[List.getElem_zip,ai1]at e;obtain⟨rfl,rfl⟩:=e;grind[XG,A7,MapKept.sameBits_self]
  simp_all[Instr.keyThatStays]
def y8(U:St)(m:Bool)(r:Option V):R:=match m,r with |_,none=>.st (.mp U.length) (U++[.mp [] [] 0])|true,some (.int _ _)=>.st (.mp U.length) (U++[.mp [] [] 0])|_,_=>.fail
def nz(P:Program)(t:TypeId):Bool:=match P.underlying t with|some (.map _ _)=>true|_=>false
theorem XH(h:Mem c w L U I):Mem c (w.alloc (.map #[] 0)) L (U++[.mp [] [] 0]) (I++[.pointer (some ⟨w.heap.size,0,none⟩)])/\Le w L (w.alloc (.map #[] 0)) L:=h.sR _ _ (λhle _=>⟨w.heap.size,#[],rfl,yR _ _,by have:=h.lim _ (A6 _);omega,by trivial,rfl⟩) (by grind[cP])
theorem XI{pos:String}(t:TypeId)(r:Option Operand)(h:dM c nt e U a w L I):fD (y8 U (nz P t) (r.map (zI e))) U (bS P c ⟨dst,.makeMap t r,ty,pos,dU,g⟩ a w L U I):=by have aa:=XH h.mem;have ab:dj (w.alloc (.map #[] 0)) L (U++[.mp [] [] 0]) (I++[.pointer (some ⟨w.heap.size,0,none⟩)]) (.mp U.length) (.map (some w.heap.size)):=⟨w.heap.size,by rw[<-h.mem.len];simp,rfl⟩;cases r with|none=>exact⟨_,_,L,_,(by simp[execOp,Instr.makeMap]),aa.1,aa.2,Ext.push U I h.mem.len _ _,ab⟩|some p=>
  have hp:=h.eval p;simp only[Bi];unfold y8;split;.grind
  .rename_i k n hm hq;simp only[ahT]at hq;rw[hq]at hp;have hp:=yS hp;unfold nz at hm;split at hm;.rename_i kt et hu;exact⟨_,_,L,_,(by simp_all[execOp,Instr.makeMap,run_underlying,asInt,asIntOf]),aa.1,aa.2,Ext.push U I h.mem.len _ _,ab⟩
   grind
  trivial
def wI(m:Option (Kk×V))(U:St)(x k:V)(ok:Bool):R:=match m with |some (kd,z)=>if nf kd k=true then(match x with |.mp id=>(match U[id]?with
   |some (.mp dD _ _)=>(match oC kd k dD 0with |some (some (_,v))=>.ok (if ok then .cm [v,.bool true]else v)|some none=>.ok (if ok then .cm [z,.bool false]else z)|none=>.fail)|_=>.fail)|.raw (.map none)=>.ok (if ok then .cm [z,.bool false]else z)|_=>.fail)else .fail|none=>.fail
theorem CA{id:Nat}(r:dj w L U I (.mp id) x):∃b,I[id]?=some (.pointer (some ⟨b,0,none⟩))/\x=.map (some b):=r
theorem IP(r:dj w L U I (.raw (.map none)) x):x=.map none:=by have r':cy w L (.raw (.map none)) x:=r;cases r';rfl
theorem LG{v:V}(b:Bool)(r:dT w L U I v x)(ok:Bool):dj w L U I (if ok then .cm [v,.bool b]else v) (if ok then .tuple #[x,.bool b]else x):=by
 cases ok;.grind[dj.lD]
 .exact⟨[x,.bool b],rfl,r,dT.dv (cU.de (.bool b)),tV⟩
theorem XJ{pos:String}(t:TypeId)(x k:Operand)(ok:Bool)(h:dM c nt e U a w L I):fD (wI (gq P t) U (zI e x) (zI e k) ok) U (bS P c ⟨dst,.lookup t x k ok,ty,pos,dU,g⟩ a w L U I):=by
 have hx:=h.eval x;have hk:=h.eval k;unfold wI;split
 .rename_i kd z hm;obtain⟨kt,et,i,zv,hu,ad,hi,hz,ah,ai⟩:=GK hm;split
  .rename_i ae;have af:∀em,(Instr.checkKey em 10000 kt (a.eval k)).run P w=.ok () w:=(by grind[GL]);have ag:(zeroValue et).run P w=.ok zv w:=by simp_all[zeroValue,typeInfo]
   split
   .rename_i id hid;rw[hid]at hx;obtain⟨b,dd,hv⟩:=CA hx;split
    .rename_i dD bs cM cD;obtain⟨b',es,e1,hh,hl,aa,aj⟩:=h.mem.cW _ _ _ cD dd;cases e1;have aa:bM (dT w L U I) dD (es.toList.flatMap λe=>[e.key,e.val]):=aa;split
     .rename_i i0 v hf;rcases y7 ad ae hk aa hf with⟨e1,_⟩|⟨j,v',e',e1,e2,_,_,e5,_⟩;.cases e1
      .cases e1;refine bS.pure h (x:=if ok then .tuple #[e'.val,.bool true]else e'.val) ?_ (LG true e5 ok);have ab:=e2;simp[execOp,Instr.lookup,run_underlying hu,hv,MapKept.run_getObj_map hh,af,ab]
     .rename_i hf;rcases y7 ad ae hk aa hf with⟨_,e2⟩|⟨j,v',e',e1,_⟩;.refine bS.pure h (x:=if ok then .tuple #[zv,.bool false]else zv) ?_ (by simp_all[LG]);have ab:=e2;simp[execOp,Instr.lookup,run_underlying hu,hv,MapKept.run_getObj_map hh,af,ab,ag]
      grind
     trivial
    trivial
   .rename_i hid;rw[hid]at hx;have hv:=IP hx;refine bS.pure h (x:=if ok then .tuple #[zv,.bool false]else zv) ?_ (by simp_all[LG]);have ab:(Instr.findKey kt (a.eval k) []).run P w=.ok none w:=by rcases y7 (es:=[]) ad ae hk (show bM (dT w L U I) [] _ from trivial) rfl with⟨_,e2⟩|⟨j,v',e',e1,_⟩;all_goals grind
    simp_all[execOp,Instr.lookup,run_underlying]
   trivial
  trivial
 trivial
def qv(dD:List V)(i:Nat)(k v:V):List V:=(dD.set (2*i) k).set (2*i+1) v
theorem CB(l:List MapEntry):∀(i:Nat),(l.flatMap λe=>[e.key,e.val])[2*i]?=(l[i]?).map (·.key)/\(l.flatMap λe=>[e.key,e.val])[2*i+1]?=(l[i]?).map (·.val):=by induction l with|nil=>simp|cons e l ih=>intro i;cases i with|zero=>simp|succ i=>grind
theorem LH(l:List MapEntry):(l.flatMap λe=>[e.key,e.val]).length=2*l.length:=by induction l<;>grind
theorem P8{es:Array MapEntry}{i:Nat}{k v:V}(h:bM (dT w L U I) dD (pQ es))(hk:dT w L U I k x)(hv:dT w L U I v y)(hi:i<es.size):bM (dT w L U I) (qv dD i k v) (pQ (es.modify i λe=>{e with key:=x,val:=y})):=by
 have hl:=h.length;unfold pQ at h hl⊢;rw[LH]at hl;simp only[Co]at hl;refine bM.of ?_ λj p q hp hq=>?_;.grind[qv,LH]
 .unfold qv at hp;obtain⟨m,hm⟩:∃m,j=2*m\/j=2*m+1:=⟨j/2,om⟩;rcases hm with rfl|rfl
  .rw[(CB _ m).1]at hq;rw[D9 om]at hp;rw[Am,Array.getElem?_modify]at hq;by_cases e1:i=m;.grind
   .rw[ahO e1]at hq;rw[D9 om]at hp;obtain⟨y',aa,r⟩:=h.get _ _ hp;grind[CB]
  .rw[(CB _ m).2]at hq;rw[Am,Array.getElem?_modify]at hq;by_cases e1:i=m;.grind
   .rw[ahO e1]at hq;rw[D9 om,D9 om]at hp;obtain⟨y',aa,r⟩:=h.get _ _ hp;rw[(CB _ m).2,Am]at aa;grind
theorem P9(es:Array MapEntry)(i:Nat)(x y:Value):(es.modify i λe=>{e with key:=x,val:=y}).toList.map (·.born)=es.toList.map (·.born):=by apply Bs;grind
def wG(m:Option (Kk×V))(U:St)(x k v:V):R:=match m,x with |some (kd,_),.mp id=>if nf kd k=true/\nu v=true then(match U[id]?with |some (.mp dD bs cM)=>(match oC kd k dD 0with |some (some (i,_))=>.st .u (U.set id (.mp (qv dD i k v) bs cM))|some none=>.st .u (U.set id (.mp (dD++[k,v]) (bs++[cM]) (cM+1)))|none=>.fail)|_=>.fail)else .fail|_,_=>.fail
theorem Qa{k:Kk}{v:V}(h:nf k v):nu v=true:=by cases k with
 |one k=>cases k<;>cases v<;>first|rfl|simp[nf,l6]at h
 |st ks=>cases v<;>first|rfl|simp[nf]at h
theorem Qb{k v:Value}{et:TypeId}{kd:Kk}{bs:aik}{cM id:Nat}{kv vv:V}(hm:Mem c w L U I)(hu:P.underlying t=some (.map kt et))(ai:y5 P kt=some kd)(hx:dj w L U I (.mp id) x)(af:nf kd kv)(hk:dj w L U I kv k)(hv:dT w L U I vv v)(cD:U[id]?=some (.mp dD bs cM)){q:Option (Nat×V)}(hf:oC kd kv dD 0=some q):∃w',(Instr.mapUpdate t x k v).run P w=.ok () w'/\Le w L w' L/\(match q with |some (i,_)=>Mem c w' L (U.set id (.mp (qv dD i kv vv) bs cM)) I/\Ext U I (U.set id (.mp (qv dD i kv vv) bs cM)) I|none=>Mem c w' L (U.set id (.mp (dD++[kv,vv]) (bs++[cM]) (cM+1))) I/\Ext U I (U.set id (.mp (dD++[kv,vv]) (bs++[cM]) (cM+1))) I):=by
 have aj:dT w L U I kv k:=EN hk (Qa af);have ag:∀em,(Instr.checkKey em 10000 kt k).run P w=.ok () w:=(by grind[GL]);obtain⟨b,dd,rfl⟩:=CA hx;obtain⟨b',es,e1,hh,hl,aa,an⟩:=hm.cW _ _ _ cD dd;cases e1;have ah:b<w.heap.size:=(by grind);have ad:∀o,Ext U I (U.set id o) I:=(by simp_all[Ext.ig]);have ae:∀ob:Go.Obj,(setObj b ob).run P w=.ok () (yU w b ob):=λob=>by rw[MapKept.run_setObj_map ob hh];rfl
 rcases y7 ai af hk aa hf with⟨rfl,e2⟩|⟨j,v',e',rfl,e2,e3,_,_,kk,e6,e7⟩
 .have ab:=e2;refine⟨yU w b (.map (es.push {key:=k,val:=v,born:=cM}) (cM+1)),?_,?_⟩;.simp[Instr.mapUpdate,run_underlying hu,MapKept.run_getObj_map hh,ag,ab,ae]
  .have key:=hm.jY (o:=.mp (dD++[kv,vv]) (bs++[cM]) (cM+1)) cD dd rfl hl (.map (es.push {key:=k,val:=v,born:=cM}) (cM+1)) (ad _) (by grind[cP]) λhle=>by
    refine⟨b,_,rfl,wH _ _ _ ah,hl,?_,by grind⟩;have:bM (dT w L U I) (dD++[kv,vv]) (pQ (es.push {key:=k,val:=v,born:=cM})):=by simp only[pQ,Array.toList_push,ai9];exact bM.append aa (by trivial)
    exact this.imp (by grind[dT.mono])
   grind
 .have ab:=e2;have hj:es[j]?=some e':=by grind
  have ak:j<es.size:=(by grind);have al:e'.key=k:=by obtain⟨y,hy,r⟩:=aa.get _ _ e6;unfold pQ at hy;rw[(CB _ j).1,e3]at hy;simp at hy;subst hy;exact(P6 hk (dj.lD r) e7).symm
  refine⟨yU w b (.map (es.modify j λe=>{e with key:=k,val:=v}) cM),?_,?_⟩;.simp[Instr.mapUpdate,run_underlying hu,MapKept.run_getObj_map hh,ag,ab,ae,hj,al,P7 af hk]
  .have key:=hm.jY (o:=.mp (qv dD j kv vv) bs cM) cD dd rfl hl (.map (es.modify j λe=>{e with key:=k,val:=v}) cM) (ad _) (by grind[cP]) λhle=>by refine⟨b,_,rfl,wH _ _ _ ah,hl,(P8 aa aj hv ak).imp (by grind[dT.mono]),by rw[P9];omega⟩
   grind
theorem Qc{o:Oper}(t:TypeId)(x k v:Operand)(h:dM c nt e U a w L I)(ho:execOp a.eval o=(do Instr.mapUpdate t (a.eval x) (a.eval k) (a.eval v);pure .skip)):fD (wG (gq P t) U (zI e x) (zI e k) (zI e v)) U (bS P c o a w L U I):=by
 have hx:=h.eval x;have hk:=h.eval k;have hv:=h.eval v;unfold wG;split
 .rename_i kd z id hm hid;obtain⟨kt,et,i,zv,hu,ad,_⟩:=GK hm;rw[hid]at hx;split
  .rename_i hc;split
   .rename_i dD bs cM cD;split;.rename_i i0 v0 hf;obtain⟨w',ae,hle,ab,aa⟩:=Qb h.mem hu ad hx hc.1 hk (EN hv hc.2) cD hf;exact⟨undef,w',L,I,(by simp_all),ab,hle,aa,tV⟩
    .rename_i hf;obtain⟨w',ae,hle,ab,aa⟩:=Qb h.mem hu ad hx hc.1 hk (EN hv hc.2) cD hf;exact⟨undef,w',L,I,(by simp_all),ab,hle,aa,tV⟩
    trivial
   trivial
  trivial
 trivial
theorem XK{pos:String}(t:TypeId)(x k v:Operand)(h:dM c nt e U a w L I):fD (wG (gq P t) U (zI e x) (zI e k) (zI e v)) U (bS P c ⟨dst,.mapUpdate t x k v,ty,pos,dU,g⟩ a w L U I):=Qc t x k v h rfl
theorem XL{pos:String}(t:TypeId)(x k v:Operand)(h:dM c nt e U a w L I):fD (wG (gq P t) U (zI e x) (zI e k) (zI e v)) U (bS P c ⟨dst,.insert t x k v,ty,pos,dU,g⟩ a w L U I):=Qc t x k v h rfl
theorem Qd{J I:Type}(f:J->I):∀(l:List J)(i:Nat),(l.eraseIdx i).map f=(l.map f).eraseIdx i|[],_=>rfl|_::_,0=>rfl|x::l,i+1=>by simp[Qd f l i]
def y9(dD:List V)(i:Nat):List V:=dD.take (2*i)++dD.drop (2*i+2)
def za(m:Option (Kk×V))(U:St)(x k:V):R:=match m,x with |some (kd,_),.mp id=>if nf kd k=true then(match U[id]?with |some (.mp dD bs cM)=>(match oC kd k dD 0with |some (some (i,_))=>.st (.cm []) (U.set id (.mp (y9 dD i) (bs.eraseIdx i) cM))|some none=>.st (.cm []) (U.set id (.mp dD bs cM))|none=>.fail)|_=>.fail)else .fail|some (kd,_),.raw (.map none)=>if nf kd k=true then .ok (.cm [])else .fail|_,_=>.fail
theorem XM(l:List MapEntry):∀(i:Nat),i<l.length->(l.eraseIdx i).flatMap (λe=>[e.key,e.val])=(l.flatMap λe=>[e.key,e.val]).take (2*i)++(l.flatMap λe=>[e.key,e.val]).drop (2*i+2):=by induction l with |nil=>simp|cons e l ih=>intro i h;cases i<;>grind
theorem XN{pos:String}(t t':TypeId)(x k:Operand)(h:dM c nt e U a w L I):fD (za (gq P t) U (zI e x) (zI e k)) U (bS P c ⟨dst,.call ⟨.builtin .delete,#[x,k],#[t,t']⟩,ty,pos,dU,g⟩ a w L U I):=by
 have hx:=h.eval x;have hk:=h.eval k;unfold za;split
 .rename_i kd z id hm hid;obtain⟨kt,et,i,zv,hu,ag,_⟩:=GK hm;rw[hid]at hx;split
  .rename_i ah;have ai:∀em,(Instr.checkKey em 10000 kt (a.eval k)).run P w=.ok () w:=(by grind[GL]);obtain⟨b,dd,hv⟩:=CA hx;split
   .rename_i dD bs cM cD;obtain⟨b',es,e1,hh,hl,aa,ak⟩:=h.mem.cW _ _ _ cD dd;cases e1;have aj:b<w.heap.size:=(by grind);have ab:∀o,Ext U I (U.set id o) I:=(by simp_all[Ext.ig]);have af:∀ob:Go.Obj,(setObj b ob).run P w=.ok () (yU w b ob):=λob=>by rw[MapKept.run_setObj_map ob hh];rfl
    split
    .rename_i i0 v0 hf;rcases y7 ag ah hk aa hf with⟨e1,_⟩|⟨j,v',e',e1,e2,e3,_,_,kk,e6,e7⟩;.cases e1
     .cases e1;have ad:=e2;have al:i0<es.toList.length:=(by grind);have an:i0<es.size:=om;have ae:(es.eraseIdxIfInBounds i0).toList=es.toList.eraseIdx i0:=by simp
      have key:=h.mem.jY (o:=.mp (y9 dD i0) (bs.eraseIdx i0) cM) cD dd rfl hl (.map (es.eraseIdxIfInBounds i0) cM) (ab _) (by grind[cP]) λhle=>by
       refine⟨b,_,rfl,wH _ _ _ aj,hl,?_,by grind[Qd]⟩;have:bM (dT w L U I) (y9 dD i0) (pQ (es.eraseIdxIfInBounds i0)):=by unfold pQ y9;rw[ae,XM _ _ al];exact(bM.take _ aa).append (bM.drop _ aa)
       exact this.imp (by grind[dT.mono])
      refine⟨.tuple #[],_,L,I,.inl ?_,key.1,key.2,ab _,[],rfl,tV⟩;simp[execOp,resolve,invoke,builtin,Builtin.delete_,run_underlying hu,hv,MapKept.run_getObj_map hh,ai,ad,af]
    .rename_i hf;rcases y7 ag ah hk aa hf with⟨_,e2⟩|⟨j,v',e',e1,_⟩
     .have ad:=e2;have key:=h.mem.jY (o:=.mp dD bs cM) cD dd rfl hl (.map es cM) (ab _) (by grind[cP]) λhle=>by exact⟨b,_,rfl,wH _ _ _ aj,hl,aa.imp (by grind[dT.mono]),ak⟩
      refine⟨.tuple #[],_,L,I,.inl ?_,key.1,key.2,ab _,[],rfl,tV⟩;simp[execOp,resolve,invoke,builtin,Builtin.delete_,run_underlying hu,hv,MapKept.run_getObj_map hh,ai,ad,af]
     grind
    trivial
   trivial
  trivial
 .rename_i kd z hm hid;obtain⟨kt,et,i,zv,hu,ag,_⟩:=GK hm;rw[hid]at hx;have hv:=IP hx;split;.rename_i ah;have ai:∀em,(Instr.checkKey em 10000 kt (a.eval k)).run P w=.ok () w:=(by grind[GL]);refine bS.pure h (x:=.tuple #[]) ?_ ⟨[],rfl,tV⟩;simp_all[execOp,resolve,invoke,builtin,Builtin.delete_,run_underlying]
  trivial
 trivial
theorem IQ{et:TypeId}(hb:P.underlying t=some (.map kt et))(m:aip)(w:World):(Op.equal t (.map m) (.map none)).run P w=.ok m.isNone w:=by
 have key:∀d,(Op.equalIn (d+1) t (.map m) (.map none)).run P w=.ok m.isNone w:=λd=>by cases m<;>simp[Op.equalIn,run_underlying hb]
 exact key 9999
def rT:Operand->Bool |.const (.map none)=>true|_=>false
def zb(op:BinOp)(m:Bool)(x:V):R:=match m,x with |true,.mp _=>(match op with|.eql=>.ok (.bool false)|.neq=>.ok (.bool true)|_=>.fail)|true,.raw (.map none)=>(match op with|.eql=>.ok (.bool true)|.neq=>.ok (.bool false)|_=>.fail)|_,_=>.fail
theorem XO{pos:String}(op:BinOp)(t t':TypeId)(x y:Operand)(hy:rT y)(h:dM c nt e U a w L I):fD (zb op (nz P t) (zI e x)) U (bS P c ⟨dst,.binOp op t x y t',ty,pos,dU,g⟩ a w L U I):=by
 have hx:=h.eval x;have aa:a.eval y=.map none:=by unfold rT at hy;split at hy;all_goals trivial
 unfold zb;split
 .rename_i id hm hid;unfold nz at hm;split at hm
  .rename_i kt et hu;rw[hid]at hx;obtain⟨b,dd,hv⟩:=CA hx;split;.refine bS.pure h (x:=.bool false) ?_ (cy.bool _);simp[execOp,eqGuard,binOp,IQ hu,hv,aa]
   .refine bS.pure h (x:=.bool true) ?_ (cy.bool _);simp[execOp,eqGuard,binOp,IQ hu,hv,aa]
   trivial
  grind
 .rename_i hm hid;unfold nz at hm;split at hm
  .rename_i kt et hu;rw[hid]at hx;have hv:=IP hx;split;.refine bS.pure h (x:=.bool true) ?_ (cy.bool _);simp[execOp,eqGuard,binOp,IQ hu,hv,aa]
   .refine bS.pure h (x:=.bool false) ?_ (cy.bool _);simp[execOp,eqGuard,binOp,IQ hu,hv,aa]
   trivial
  grind
 trivial
def zc(m:Bool)(U:St)(x:V):R:=match m,x with |true,.mp id=>(match U[id]?with|some (.mp _ _ cM)=>.st (.ptr U.length 0) (U++[.it (some id) cM [] cM])|_=>.fail)|true,.raw (.map none)=>.st (.ptr U.length 0) (U++[.it none 0 [] 0])|_,_=>.fail
theorem XP{pos:String}(t:TypeId)(x:Operand)(h:dM c nt e U a w L I):fD (zc (nz P t) U (zI e x)) U (bS P c ⟨dst,.range t x,ty,pos,dU,g⟩ a w L U I):=by
 have hx:=h.eval x;have rd:∀(o:Ob)(w':World),dj w' L (U++[o]) (I++[.pointer (some ⟨w.heap.size,0,none⟩)]) (.ptr U.length 0) (.pointer (some ⟨w.heap.size,0,none⟩)):=λo w'=>⟨w.heap.size,by rw[<-h.mem.len];simp,rfl⟩;unfold zc;split
 .rename_i id hm hid;unfold nz at hm;split at hm
  .rename_i kt et hu;rw[hid]at hx;obtain⟨b,dd,hv⟩:=CA hx;split;.rename_i dD bs cM cD;obtain⟨b',es,e1,hh,hl,ad,ae⟩:=h.mem.cW _ _ _ cD dd;cases e1;have key:=h.mem.sR (.mapIter (some b) cM #[] cM) (.it (some id) cM [] cM) (λhle aa=>⟨w.heap.size,some b,rfl,yR _ _,h.mem.lim _ om,b,(by grind),rfl⟩) (by grind[cP]);refine⟨_,_,L,_,.inl ?_,key.1,key.2,Ext.push U I h.mem.len _ _,rd _ _⟩;have ab:=run_range_map (P:=P) w t kt et b es cM hu hh;simp_all[execOp]
   trivial
  grind
 .rename_i hm hid;unfold nz at hm;split at hm;.rename_i kt et hu;rw[hid]at hx;have hv:=IP hx;have key:=h.mem.sR (.mapIter none 0 #[] 0) (.it none 0 [] 0) (λhle aa=>⟨w.heap.size,none,rfl,yR _ _,h.mem.lim _ om,rfl⟩) (by grind[cP]);refine⟨_,_,L,_,.inl ?_,key.1,key.2,Ext.push U I h.mem.len _ _,rd _ _⟩;have ab:=run_range_nilMap (P:=P) w t kt et hu;simp_all[execOp]
  grind
 trivial
def zd(seen:aik):List V->aik->List (V×V×Nat) |k::v::dD,b::bs=>if seen.contains b then zd seen dD bs else(k,v,b)::zd seen dD bs|_,_=>[]
def nA(open_:Bool)(U:St)(x:V):R:=match x with |.ptr i 0=>(match U[i]?with |some (.it none _ _ _)=>.ok (.cm [.bool false])|some (.it (some id) since seen last)=>(match U[id]?with |some (.mp dD bs cM)=>if(bs.all λb=>decide (b<since))=true/\since<=last then(match zd seen dD bs with |[]=>.ok (.cm [.bool false])|[(k,v,b)]=>.st (.cm [.bool true,k,v]) (U.set i (.it (some id) since (seen++[b]) cM))|l=>if open_ then .any (l.map λp=>(.cm [.bool true,p.1,p.2.1],U.set i (.it (some id) since (seen++[p.2.2]) cM)))else .fail)else .fail|_=>.fail)|_=>.fail)|_=>.fail
theorem Qe:∀(dD:List V)(bs:aik)(es:List MapEntry)(seen:aik),bM (dT w L U I) dD (es.flatMap λe=>[e.key,e.val])->es.map (·.born)=bs->bM (λp(e:MapEntry)=>dT w L U I p.1 e.key/\dT w L U I p.2.1 e.val/\e.born=p.2.2) (zd seen dD bs) (es.filter λe=>!seen.contains e.born)
 |[],bs,[],seen,_,hb=>by simpa|[],_,e::es,_,ha,_=>by trivial|[_],_,[],_,ha,_=>by trivial|[_],_,e::es,_,ha,_=>by grind[bM]|_::_::_,_,[],_,ha,_=>by trivial|k::v::dD,bs,e::es,seen,ha,hb=>by simp only[Bu,Bg,C0,bM]at ha;obtain⟨h1,h2,h3⟩:=ha;cases bs with |nil=>grind|cons b bs=>
   simp only[Ad,List.cons.injEq]at hb;obtain⟨rfl,hb⟩:=hb;have ih:=Qe dD bs es seen h3 hb;rw[zd,C1];by_cases hc:seen.contains e.born=true;.grind
   .rw[ahO hc,ahP (sU hc)];trivial
theorem XQ{w1:World}(h:w1=w\/w1=w.drew)(hm:Mem c w L U I):Mem c w1 L U I/\Le w L w1 L:=by
 rcases h with rfl|rfl;.grind[Le.refl]
 .exact hm.drew
theorem Qf{pos:String}(open_:Bool)(x:Operand)(h:dM c nt e U a w L I):fD (nA open_ U (zI e x)) U (bS P c ⟨dst,.next x false,ty,pos,dU,g⟩ a w L U I):=by
 have hx:=h.eval x;unfold nA;split
 .rename_i i hid;rw[hid]at hx;obtain⟨r,dd,hv⟩:=hx;split;.rename_i since seen last cD;obtain⟨r',mo,e1,hh,hl,ai⟩:=h.mem.cW _ _ _ cD dd;cases e1;simp only at ai;subst ai;refine bS.pure h (x:=.tuple #[.bool false]) ?_ ⟨[.bool false],rfl,dT.dv (cU.de (.bool _)),tV⟩;simp[execOp,hv,Instr.next,getObj,Sem.run,hh]
  .rename_i id since seen last cD;obtain⟨r',mo,e1,hh,hl,b,aj,rfl⟩:=h.mem.cW _ _ _ cD dd;cases e1;split
   .rename_i dD bs cM an;obtain⟨b',es,e1,ao,az,ak,al⟩:=h.mem.cW _ _ _ an aj;cases e1;split
    .rename_i hc;have a1:r<w.heap.size:=(by grind);have aa:=Qe dD bs es.toList seen ak al;have aq:(leftOf es seen.toArray).toList=es.toList.filter λe=>!seen.contains e.born:=by simp[leftOf]
     rw[<-aq]at aa;have hold:∀x∈es.toList,x.born<since:=λx hx=>by have:=Aj.1 hc.1 x.born (by rw[<-al];exact Aa.2 ⟨x,hx,rfl⟩);grind
     have ad:=run_next_at (P:=P) w ty r b since last seen.toArray es cM hh ao hold hc.2;have ae:∀o,Ext U I (U.set i o) I:=(by simp_all[Ext.ig]);have step:∀(q:V×V×Nat)(en:MapEntry)(w1:World),(w1=w\/w1=w.drew)->dT w L U I q.1 en.key->dT w L U I q.2.1 en.val->en.born=q.2.2->(Instr.next (.pointer (some ⟨r,0,none⟩)) false ty).run P w=.ok (.tuple #[.bool true,en.key,en.val]) (ChangeMaps.setBlock w1 r (.mapIter (some b) since (seen.toArray.push en.born) cM))->bS P c ⟨dst,.next x false,ty,pos,dU,g⟩ a w L U I (.cm [.bool true,q.1,q.2.1]) (U.set i (.it (some id) since (seen++[q.2.2]) cM)):=by
      intro q en w1 af h1 h2 h3 ab;obtain⟨ar,ag⟩:=XQ af h.mem;have a6:w1.heap[r]?=some (.mapIter (some b) since seen.toArray last):=by rcases af with rfl|rfl<;>exact hh
      have aw:r<w1.heap.size:=(by grind);have key:=ar.jY (o:=.it (some id) since (seen++[q.2.2]) cM) cD dd rfl hl (.mapIter (some b) since (seen.toArray.push en.born) cM) (ae _) (by grind[cP]) λhle=>by refine⟨r,some b,rfl,?_,hl,b,aj,rfl⟩;grind[wH]
      refine⟨.tuple #[.bool true,en.key,en.val],yU w1 r (.mapIter (some b) since (seen.toArray.push en.born) cM),L,I,.inl ?_,key.1,ag.trans key.2,ae _,?_⟩;.simp only[execOp,hv,Sem.run_bind,ab,Result.andThen_ok,Sem.run_pure];rfl
      .exact⟨[.bool true,en.key,en.val],rfl,dT.dv (cU.de (.bool _)),h1.mono (ag.trans key.2) (ae _),h2.mono (ag.trans key.2) (ae _),tV⟩
     split
     .rename_i au;rw[au]at aa;have h0:(leftOf es seen.toArray).size=0:=by have:=aa.length;grind
      rcases ad with⟨_,ab⟩|⟨en,ah,_⟩;.refine bS.pure h (x:=.tuple #[.bool false]) ?_ ⟨[.bool false],rfl,dT.dv (cU.de (.bool _)),tV⟩;grind[execOp,Sem.run_bind,Result.andThen_ok,Sem.run_pure]
      grind
     .rename_i k v b0 av;rw[av]at aa;have h0:(leftOf es seen.toArray).size=1:=by have:=aa.length;grind
      rcases ad with⟨hz,_⟩|⟨en,ah,w1,af,ab⟩;.omega
      .obtain⟨q,hq,h1,h2,h3⟩:=bM.ny aa ah;simp at hq;subst hq;exact step _ en w1 af h1 h2 h3 ab
     .rename_i l ax ay;split;case isFalse=>trivial
      rcases ad with⟨hz,_⟩|⟨en,ah,w1,af,ab⟩;.have:=aa.length;grind
      .obtain⟨q,hq,h1,h2,h3⟩:=bM.ny aa ah;exact⟨_,Aa.2 ⟨q,hq,rfl⟩,(by grind)⟩
    trivial
   trivial
  trivial
 trivial
def wN(m:Option (Kk×V))(U:St)(x k:V):R:=match m,x with |some (kd,z),.mp id=>if nf kd k=true then(match U[id]?with |some (.mp dD bs cM)=>(match oC kd k dD 0with |some (some (i,v))=>(match bs[i]?with|some b=>.ok (.cm [v,.int .i64 (b:Int)])|none=>.fail)|some none=>.st (.cm [z,.int .i64 (cM:Int)]) (U.set id (.mp (dD++[k,z]) (bs++[cM]) (cM+1)))|none=>.fail)|_=>.fail)else .fail|_,_=>.fail
theorem XR(es:Array MapEntry)(i:Nat)(f:MapEntry->MapEntry)(h:∀e,es[i]?=some e->f e=e):es.modify i f=es:=by grind
theorem XS{pos:String}(t:TypeId)(x k:Operand)(h:dM c nt e U a w L I):fD (wN (gq P t) U (zI e x) (zI e k)) U (bS P c ⟨dst,.mapEntry t x k,ty,pos,dU,g⟩ a w L U I):=by
 have hx:=h.eval x;have hk:=h.eval k;unfold wN;split
 .rename_i kd z id hm hid;obtain⟨kt,et,i,zv,hu,ag,hi,hz,au,ah⟩:=GK hm;rw[hid]at hx;split
  .rename_i ad;have ai:∀em,(Instr.checkKey em 10000 kt (a.eval k)).run P w=.ok () w:=(by grind[GL]);have al:(zeroValue et).run P w=.ok zv w:=by simp_all[zeroValue,typeInfo]
   obtain⟨b,dd,hv⟩:=CA hx;split
   .rename_i dD bs cM cD;obtain⟨b',es,e1,hh,hl,aa,an⟩:=h.mem.cW _ _ _ cD dd;cases e1;have aj:b<w.heap.size:=(by grind);have ab:∀o,Ext U I (U.set id o) I:=(by simp_all[Ext.ig]);have ae:∀ob:Go.Obj,(setObj b ob).run P w=.ok () (yU w b ob):=λob=>by rw[MapKept.run_setObj_map ob hh];rfl
    split
    .rename_i i0 v0 hf;split
     .rename_i b0 av;rcases y7 ag ad hk aa hf with⟨e1,_⟩|⟨j,v',e',e1,e2,e3,_,e5,kk,e6,e7⟩;.cases e1
      .simp only[ahT,ai1]at e1;obtain⟨rfl,rfl⟩:=e1;have hj:es[i0]?=some e':=by grind
       have ak:e'.key=a.eval k:=by obtain⟨y,hy,r⟩:=aa.get _ _ e6;unfold pQ at hy;rw[(CB _ i0).1,e3]at hy;simp at hy;subst hy;exact(P6 hk (dj.lD r) e7).symm
       have ao:e'.born=b0:=by grind
       have af:(es.modify i0 λe=>{e with key:=a.eval k})=es:=XR es i0 _ λe he=>by rw[hj]at he;cases he;rw[<-ak]
       have aq:U.set id (.mp dD bs cM)=U:=yQ U id _ cD;have key:=h.mem.jY (o:=.mp dD bs cM) cD dd rfl hl (.map es cM) (ab _) (by grind[cP]) λhle=>by exact⟨b,_,rfl,wH _ _ _ aj,hl,aa.imp (by grind[dT.mono]),an⟩
       rw[aq]at key;refine⟨.tuple #[e'.val,.int .i64 (b0:Int)],_,L,I,.inl ?_,key.1,key.2,Ext.refl _ _,[e'.val,.int .i64 (b0:Int)],rfl,e5.mono key.2 (by grind),dT.dv (cU.de (.int _ _)),tV⟩;simp[execOp,Instr.mapEntry,run_underlying hu,hv,MapKept.run_getObj_map hh,ai,e2,ae,hj,ak,P7 ad hk,af,ao,goInt]
     trivial
    .rename_i hf;rcases y7 ag ad hk aa hf with⟨_,e2⟩|⟨j,v',e',e1,_⟩
     .have ar:dT w L U I (zI e k) (a.eval k):=EN hk (Qa ad);have key:=h.mem.jY (o:=.mp (dD++[zI e k,z]) (bs++[cM]) (cM+1)) cD dd rfl hl (.map (es.push {key:=a.eval k,val:=zv,born:=cM}) (cM+1)) (ab _) (by grind[cP]) λhle=>by
       refine⟨b,_,rfl,wH _ _ _ aj,hl,?_,by grind⟩;have:bM (dT w L U I) (dD++[zI e k,z]) (pQ (es.push {key:=a.eval k,val:=zv,born:=cM})):=by simp only[pQ,Array.toList_push,ai9];exact bM.append aa ⟨ar,ah _ _ _ _,tV⟩
       exact this.imp (by grind[dT.mono])
      refine⟨.tuple #[zv,.int .i64 (cM:Int)],_,L,I,.inl ?_,key.1,key.2,ab _,[zv,.int .i64 (cM:Int)],rfl,ah _ _ _ _,dT.dv (cU.de (.int _ _)),tV⟩;simp[execOp,Instr.mapEntry,run_underlying hu,hv,MapKept.run_getObj_map hh,ai,e2,ae,al,goInt]
     grind
    trivial
   trivial
  trivial
 trivial
def wB(U:St)(x s v:V):R:=match x,s with |.mp id,.int _ n=>if nu v=true then(match U[id]?with
  |some (.mp dD bs cM)=>(match bs.findIdx? λ(b:Nat)=>(b:Int)==n with |some i=>.st .u (U.set id (.mp (dD.set (2*i+1) v) bs cM))|none=>.fail)|_=>.fail)else .fail|_,_=>.fail
theorem XT{pos:String}(t:TypeId)(x s v:Operand)(h:dM c nt e U a w L I):fD (wB U (zI e x) (zI e s) (zI e v)) U (bS P c ⟨dst,.entryStore t x s v,ty,pos,dU,g⟩ a w L U I):=by
 have hx:=h.eval x;have hs:=h.eval s;have hv:=h.eval v;unfold wB;split
 .rename_i id k n hid ah;rw[hid]at hx;rw[ah]at hs;have hs:=yS hs;split
  .rename_i hc;obtain⟨b,dd,ai⟩:=CA hx;split
   .rename_i dD bs cM cD;obtain⟨b',es,e1,hh,hl,aa,aj⟩:=h.mem.cW _ _ _ cD dd;cases e1;have ak:b<w.heap.size:=(by grind);have ab:∀o,Ext U I (U.set id o) I:=(by simp_all[Ext.ig]);have ad:∀ob:Go.Obj,(setObj b ob).run P w=.ok () (yU w b ob):=λob=>by rw[MapKept.run_setObj_map ob hh];rfl
    split
    .rename_i i hf;have ae:(es.findIdx? λe=>(e.born:Int)==n)=some i:=by
      rw[<-aj,List.findIdx?_map]at hf;have hq:es.findIdx? (λe=>(e.born:Int)==n)=es.toList.findIdx? λe=>(e.born:Int)==n:=by obtain⟨l⟩:=es;simp
      rw[hq];exact hf
     have hi:i<es.size:=by obtain⟨h1,_⟩:=Array.findIdx?_eq_some_iff_getElem.1 ae;exact h1
     have al:dT w L U I (zI e v) (a.eval v):=EN hv hc;have hlen:=aa.length;unfold pQ at hlen;rw[LH]at hlen;simp only[Co]at hlen;have an:2*i<dD.length:=om;have af:dT w L U I dD[2*i] es[i].key:=by obtain⟨y,hy,r⟩:=aa.get (2*i) _ (A0 an);grind[pQ,CB]
     have ao:qv dD i dD[2*i] (zI e v)=dD.set (2*i+1) (zI e v):=by grind[qv,List.set_getElem_self]
     have ag:(es.modify i λe=>{e with val:=a.eval v})=es.modify i λe=>{e with key:=es[i].key,val:=a.eval v}:=by rfl
     have key:=h.mem.jY (o:=.mp (qv dD i dD[2*i] (zI e v)) bs cM) cD dd rfl hl (.map (es.modify i λe=>{e with key:=es[i].key,val:=a.eval v}) cM) (ab _) (by grind[cP]) λhle=>by refine⟨b,_,rfl,wH _ _ _ ak,hl,(P8 aa af al hi).imp (by grind[dT.mono]),by rw[P9];omega⟩
     rw[ao,<-ag]at key;refine⟨undef,_,L,I,.inr ⟨?_,rfl⟩,key.1,key.2,ab _,tV⟩;simp[execOp,Instr.entryStore,ai,hs,MapKept.run_getObj_map hh,asInt,asIntOf,ae,ad]
    trivial
   trivial
  trivial
 trivial
def EP(b:Nat):List V->aik->Option (V×V) |k::v::dD,b'::bs=>if b'=b then some (k,v)else EP b dD bs|_,_=>none
def qx(U:St)(x:V):R:=match x with |.ptr i 0=>(match U[i]?with |some (.it (some id) _ seen last)=>(match U[id]?,seen.getLast? with |some (.mp dD bs cM),some b=>if cM=last then(match EP b dD bs with|some (k,v)=>.ok (.cm [k,v])|none=>.fail)else .fail|_,_=>.fail)|_=>.fail)|_=>.fail
theorem my(b:Nat):∀(dD:List V)(bs:aik)(es:List MapEntry)(k v:V),bM (dT w L U I) dD (es.flatMap λe=>[e.key,e.val])->es.map (·.born)=bs->EP b dD bs=some (k,v)->∃e,es.find? (·.born==b)=some e/\dT w L U I k e.key/\dT w L U I v e.val
 |[],_,_,_,_,_,_,h=>by trivial|[_],_,_,_,_,_,_,h=>by trivial|_::_::_,_,[],_,_,ha,_,_=>by simpa|k0::v0::dD,bs,e::es,k,v,ha,hb,h=>by simp only[Bu,Bg,C0,bM]at ha;obtain⟨h1,h2,h3⟩:=ha;cases bs with |nil=>grind|cons b' bs=>
   simp only[Ad,List.cons.injEq]at hb;obtain⟨rfl,hb⟩:=hb;rw[EP]at h;by_cases q:e.born=b;.grind
   .rw[ahO q]at h;obtain⟨e',g1,g2,g3⟩:=my b dD bs es k v h3 hb h;have qb:(e.born==b)=false:=sU q;exact⟨e',by rw[List.find?_cons,qb];exact g1,g2,g3⟩
theorem XU{pos:String}(x:Operand)(h:dM c nt e U a w L I):fD (qx U (zI e x)) U (bS P c ⟨dst,.entry x,ty,pos,dU,g⟩ a w L U I):=by
 have hx:=h.eval x;unfold qx;split
 .rename_i i hid;rw[hid]at hx;obtain⟨r,dd,hv⟩:=hx;split
  .rename_i id since seen last cD;obtain⟨r',mo,e1,hh,hl,b,ab,rfl⟩:=h.mem.cW _ _ _ cD dd;cases e1;split
   .rename_i dD bs cM b0 ad af;obtain⟨b',es,e1,ag,ah,aa,ae⟩:=h.mem.cW _ _ _ ad ab;cases e1;split
    .rename_i hc;subst hc;split
     .rename_i k v he;obtain⟨en,g1,g2,g3⟩:=my b0 dD bs es.toList k v aa ae he;have ai:es.find? (·.born==b0)=some en:=by grind
      have aj:seen.toArray.back?=some b0:=by grind
      refine bS.pure h (x:=.tuple #[en.key,en.val]) ?_ ⟨[en.key,en.val],rfl,g2,g3,tV⟩;simp_all[execOp,Instr.entry,getObj,Sem.run]
     trivial
    trivial
   trivial
  trivial
 trivial
def ER(P:Program)(t:TypeId):Bool:=match P.underlying t with|some (.slice _)=>true|_=>false
def ze(b:Bool)(t:TypeId)(x:V):R:=match b,x with |true,.cL id s n lo m=>.ok (.gW t [.cL id s n lo m])|true,.sl g rows=>.ok (.gW t [.sl g rows])|_,_=>.fail
theorem XV{pos:String}(t:TypeId)(x:Operand)(h:dM c nt e U a w L I):fD (ze (ER P t) t (zI e x)) U (bS P c ⟨dst,.makeInterface t x,ty,pos,dU,g⟩ a w L U I):=by
 have hx:=h.eval x;have hu:ER P t=true->(Instr.makeInterface t (a.eval x)).run P w=.ok (.iface t (a.eval x)) w:=λhb=>by unfold ER at hb;split at hb;all_goals simp_all[Instr.makeInterface,run_underlying]
 unfold ze;split;.rename_i id s n lo m hb hid;rw[hid]at hx;exact bS.pure h (x:=.iface t (a.eval x)) (by simp_all[execOp]) ⟨a.eval x,rfl,hx,tV⟩
 .rename_i g rows hb hid;rw[hid]at hx;exact bS.pure h (x:=.iface t (a.eval x)) (by simp_all[execOp]) ⟨a.eval x,rfl,hx,tV⟩
 trivial
end
def dE(ρ:Nat->Nat):V->V |.ptr id off=>.ptr (ρ id) off|.sl (.app id) rows=>.sl (.app (ρ id)) rows|.cL id s n lo m=>.cL (ρ id) s n lo m|.jj id s n k j=>.jj (ρ id) s n k j|.j9 id s off n=>.j9 (ρ id) s off n|.mp id=>.mp (ρ id)|v=>v
def dz(ρ:Nat->Nat):V->V |.fn f bY=>.fn f (bY.map (dE ρ))|.gW t vs=>.gW t (vs.map (dE ρ))|v=>dE ρ v
def dQ(ρ:Nat->Nat):V->V |.agg cs=>.agg (cs.map (dz ρ))|v=>dz ρ v
def dG(ρ:Nat->Nat):V->V |.cm vs=>.cm (vs.map (dQ ρ))|v=>dQ ρ v
def yO(ρ:Nat->Nat):Ob->Ob |.box cells=>.box (cells.map (dz ρ))|.cj rows s=>.cj (rows.map λr=>r.map (dz ρ)) s|.mp dD gk cM=>.mp (dD.map (dQ ρ)) gk cM|.it m since seen last=>.it (m.map ρ) since seen last|o=>o
theorem bM.fF{J I γ:Type}{R:J->I->Prop}{S:γ->I->Prop}{f:J->γ}(h:∀a b,R a b->S (f a) b):∀{l:List J}{m:List I},bM R l m->bM S (l.map f) m |[],[],_=>trivial|_::_,_::_,q=>⟨h _ _ q.1,bM.fF h q.2⟩|[],_::_,q=>q.elim|_::_,[],q=>q.elim
theorem bM.gm{J I γ:Type}{R:J->I->Prop}{S:γ->I->Prop}{f:J->γ}(h:∀a b,S (f a) b->R a b):∀{l:List J}{m:List I},bM S (l.map f) m->bM R l m |[],[],_=>trivial|_::_,_::_,q=>⟨h _ _ q.1,bM.gm h q.2⟩|[],_::_,q=>q.elim|_::_,[],q=>q.elim
structure ET(ρ:Nat->Nat)(U:St)(I:ail)(Uc:St)(Ic:ail):Prop where
 val:∀(id:Nat) x,I[id]?=some x->Ic[ρ id]?=some x
 app:∀(id:Nat) n s,U[id]?=some (.app n s)->Uc[ρ id]?=some (.app n s)cj:∀(id:Nat) rows s,U[id]?=some (.cj rows s)->∃fp,Uc[ρ id]?=some (.cj fp s)/\fp.length=rows.length
 dead:∀(id:Nat),U[id]?=some .dead->Uc[ρ id]?=some .dead
structure sS(ρ:Nat->Nat)(U:St)(I:ail)(Uc:St)(Ic:ail):Prop where
 val:∀(id:Nat) x,Ic[ρ id]?=some x->I[id]?=some x
 app:∀(id:Nat) n s,Uc[ρ id]?=some (.app n s)->U[id]?=some (.app n s)cj:∀(id:Nat) rows s,Uc[ρ id]?=some (.cj rows s)->∃fp,U[id]?=some (.cj fp s)/\fp.length=rows.length
 dead:∀(id:Nat),Uc[ρ id]?=some .dead->U[id]?=some .dead
section
variable{ρ:Nat->Nat}{w:World}{L:Nat->Nat}{U Uc:St}{I Ic:ail}
variable {x:Value}
theorem gC.mz(h:ET ρ U I Uc Ic){v:V}(r:gC w L U I v x):gC w L Uc Ic (dE ρ v) x:=by cases v with
 |ptr id off=>obtain⟨b,hb,hx⟩:=r;exact⟨b,h.val _ _ hb,hx⟩|sl g rows=>cases g with |app id=>obtain⟨hr,n,s,cD,hle,dd,hl⟩:=r;exact⟨hr,n,s,h.app _ _ _ cD,hle,λq=>h.val _ _ (dd q),hl⟩|ro=>exact r|full=>exact r
 |cL id s n lo m=>
  obtain⟨a,cap,hx,hm,ha,hc⟩:=r;refine⟨a,cap,hx,hm,ha,?_⟩;rcases hc with hd|⟨rows,cD,hn,hb⟩;.exact .inl (h.dead id hd)
  .obtain⟨r2,e2,l2⟩:=h.cj id rows s cD;refine .inr ⟨r2,e2,om,λq=>?_⟩;obtain⟨b,c0,q1,q2⟩:=hb om;exact⟨b,c0,h.val _ _ q1,q2⟩|jj id s n i j=>
  obtain⟨b,o,hx,hc⟩:=r;refine⟨b,o,hx,?_⟩;rcases hc with hd|⟨rows,cD,hn,hb⟩;.exact .inl (h.dead id hd)
  .obtain⟨r2,e2,l2⟩:=h.cj id rows s cD;refine .inr ⟨r2,e2,om,λq q'=>?_⟩;obtain⟨c0,q1,q2⟩:=hb om q';exact⟨c0,h.val _ _ q1,q2⟩|j9 id s off n=>obtain⟨b,hb,hx⟩:=r;exact⟨b,h.val _ _ hb,hx⟩|mp id=>obtain⟨b,hb,hx⟩:=r;exact⟨b,h.val _ _ hb,hx⟩|_=>exact r
theorem gC.jm(h:sS ρ U I Uc Ic){v:V}(r:gC w L Uc Ic (dE ρ v) x):gC w L U I v x:=by cases v with
 |ptr id off=>obtain⟨b,hb,hx⟩:=r;exact⟨b,h.val _ _ hb,hx⟩|sl g rows=>cases g with |app id=>obtain⟨hr,n,s,cD,hle,dd,hl⟩:=r;exact⟨hr,n,s,h.app _ _ _ cD,hle,λq=>h.val _ _ (dd q),hl⟩|ro=>exact r|full=>exact r
 |cL id s n lo m=>
  obtain⟨a,cap,hx,hm,ha,hc⟩:=r;refine⟨a,cap,hx,hm,ha,?_⟩;rcases hc with hd|⟨rows,cD,hn,hb⟩;.exact .inl (h.dead id hd)
  .obtain⟨r2,e2,l2⟩:=h.cj id rows s cD;refine .inr ⟨r2,e2,om,λq=>?_⟩;obtain⟨b,c0,q1,q2⟩:=hb om;exact⟨b,c0,h.val _ _ q1,q2⟩|jj id s n i j=>
  obtain⟨b,o,hx,hc⟩:=r;refine⟨b,o,hx,?_⟩;rcases hc with hd|⟨rows,cD,hn,hb⟩;.exact .inl (h.dead id hd)
  .obtain⟨r2,e2,l2⟩:=h.cj id rows s cD;refine .inr ⟨r2,e2,om,λq q'=>?_⟩;obtain⟨c0,q1,q2⟩:=hb om q';exact⟨c0,h.val _ _ q1,q2⟩|j9 id s off n=>obtain⟨b,hb,hx⟩:=r;exact⟨b,h.val _ _ hb,hx⟩|mp id=>obtain⟨b,hb,hx⟩:=r;exact⟨b,h.val _ _ hb,hx⟩|_=>exact r
theorem cU.mz(h:ET ρ U I Uc Ic){v:V}(r:cU w L U I v x):cU w L Uc Ic (dz ρ v) x:=by cases v with |fn f bY=>obtain⟨xs,hx,hc⟩:=r;exact⟨xs,hx,(by grind[bM.fF,gC.mz])⟩|gW t v=>obtain⟨y,hx,hc⟩:=r;exact⟨y,hx,(by grind[bM.fF,gC.mz])⟩|sl g rows=>have r':gC w L U I (.sl g rows) x:=r;have:=r'.mz h;cases g<;>exact this|_=>simp only[cU]at r;have q:=gC.mz h r;exact q
theorem cU.jm(h:sS ρ U I Uc Ic){v:V}(r:cU w L Uc Ic (dz ρ v) x):cU w L U I v x:=by cases v with
 |fn f bY=>obtain⟨xs,hx,hc⟩:=r;exact⟨xs,hx,(by grind[bM.gm,gC.jm])⟩|gW t v=>obtain⟨y,hx,hc⟩:=r;exact⟨y,hx,(by grind[bM.gm,gC.jm])⟩|sl g rows=>
  have r':gC w L Uc Ic (dE ρ (.sl g rows)) x:=by cases g<;>exact r
  exact r'.jm h|_=>simp only[cU];refine gC.jm h ?_;exact r
theorem dT.mz(h:ET ρ U I Uc Ic){v:V}(r:dT w L U I v x):dT w L Uc Ic (dQ ρ v) x:=by cases v with |agg cs=>obtain⟨xs,hx,hc⟩:=r;exact⟨xs,hx,(by grind[bM.fF,cU.mz])⟩|sl g rows=>have r':cU w L U I (.sl g rows) x:=r;have:=r'.mz h;cases g<;>exact this|_=>simp only[dT]at r;have q:=cU.mz h r;exact q
theorem dT.jm(h:sS ρ U I Uc Ic){v:V}(r:dT w L Uc Ic (dQ ρ v) x):dT w L U I v x:=by cases v with
 |agg cs=>obtain⟨xs,hx,hc⟩:=r;exact⟨xs,hx,(by grind[bM.gm,cU.jm])⟩|sl g rows=>
  have r':cU w L Uc Ic (dz ρ (.sl g rows)) x:=by cases g<;>exact r
  exact r'.jm h|_=>simp only[dT];refine cU.jm h ?_;exact r
theorem dj.mz(h:ET ρ U I Uc Ic){v:V}(r:dj w L U I v x):dj w L Uc Ic (dG ρ v) x:=by cases v with |u=>trivial|cm vs=>obtain⟨xs,hx,hc⟩:=r;exact⟨xs,hx,(by grind[bM.fF,dT.mz])⟩|sl g rows=>have r':dT w L U I (.sl g rows) x:=r;have:=r'.mz h;cases g<;>exact this|_=>simp only[dj]at r;have q:=dT.mz h r;exact q
theorem dj.jm(h:sS ρ U I Uc Ic){v:V}(r:dj w L Uc Ic (dG ρ v) x):dj w L U I v x:=by cases v with
 |u=>trivial|cm vs=>obtain⟨xs,hx,hc⟩:=r;exact⟨xs,hx,(by grind[bM.gm,dT.jm])⟩|sl g rows=>
  have r':dT w L Uc Ic (dQ ρ (.sl g rows)) x:=by cases g<;>exact r
  exact r'.jm h|_=>simp only[dj];refine dT.jm h ?_;exact r
theorem gN.mz(h:ET ρ U I Uc Ic){o:Ob}(r:gN w L U I o x):gN w L Uc Ic (yO ρ o) x:=by cases o with
 |box cells=>obtain⟨b,arr,T,fz,hx,hh,hf,hl,hc⟩:=r;exact⟨b,arr,T,fz,hx,hh,hf,hl,(by grind[bM.fF,cU.mz])⟩|cj rows s=>
  obtain⟨a,cap,hx,db,hs,hu,cK⟩:=r;refine⟨a,cap,by grind,by grind,hs,λr hr=>?_,λh0=>?_⟩;.grind
  grind[bM.fF,cU.mz]|app n s=>exact r|dead=>trivial|mp dD gk cM=>obtain⟨b,es,hx,hh,hl,hc,hb⟩:=r;exact⟨b,es,hx,hh,hl,(by grind[bM.fF,dT.mz]),hb⟩|it m since seen last=>obtain⟨b,mo,hx,hh,hl,hc⟩:=r;refine⟨b,mo,hx,hh,hl,?_⟩;cases m with|none=>exact hc|some id=>obtain⟨q,hq,hm⟩:=hc;exact⟨q,h.val _ _ hq,hm⟩
theorem gN.jm(h:sS ρ U I Uc Ic){o:Ob}(r:gN w L Uc Ic (yO ρ o) x):gN w L U I o x:=by cases o with
 |box cells=>obtain⟨b,arr,T,fz,hx,hh,hf,hl,hc⟩:=r;exact⟨b,arr,T,fz,hx,hh,hf,hl,(by grind[bM.gm,cU.jm])⟩|cj rows s=>
  obtain⟨a,cap,hx,db,hs,hu,cK⟩:=r;refine⟨a,cap,by grind,by grind,hs,λr hr=>?_,λh0=>?_⟩;.simp_all
  grind[bM.gm,cU.jm]|app n s=>exact r|dead=>trivial|mp dD gk cM=>obtain⟨b,es,hx,hh,hl,hc,hb⟩:=r;exact⟨b,es,hx,hh,hl,(by grind[bM.gm,dT.jm]),hb⟩|it m since seen last=>obtain⟨b,mo,hx,hh,hl,hc⟩:=r;refine⟨b,mo,hx,hh,hl,?_⟩;cases m with|none=>exact hc|some id=>obtain⟨q,hq,hm⟩:=hc;exact⟨q,h.val _ _ hq,hm⟩
theorem sT(o:Ob)(x:Value):cP (yO ρ o) x=cP o x:=by cases o with
 |cj rows s=>cases x with |slice a n cap=>cases a<;>rfl|_=>rfl
 |_=>cases x<;>first|rfl|(rename_i q;cases q<;>rfl)
end
variable {U:St}{P:Program}
def uz(U:St)(I:ail):aik:=(U.zip I).filterMap λp=>cP p.1 p.2
theorem gF{I:ail}{b:Nat}:b∈uz U I↔∃(i:Nat)(o:Ob)(x:Value),U[i]?=some o/\I[i]?=some x/\cP o x=some b:=by
 unfold uz;rw[List.mem_filterMap];constructor;.rintro⟨⟨o,x⟩,hm,he⟩;obtain⟨i,hi⟩:=Av.1 hm;grind[List.getElem?_zip_eq_some]
 .rintro⟨i,o,x,h1,h2,h3⟩;exact⟨(o,x),Av.2 ⟨i,by grind⟩,h3⟩
def entry(w:World)(L:Nat->Nat)(U:St)(I:ail):Ctx:=⟨w,L,uz U I,U,I⟩
def cO(cS:aik)(N:Nat)(id:Nat):Nat:=if h:id<cS.length then cS[id]else N+(id-cS.length)
def bL(P:Program)(f:FuncId)(args:List V)(U:St)(R:V->St->Prop):Prop:=∀(w:World)(L:Nat->Nat)(I:ail)(kb:ail),Mem (entry w L U I) w L U I->bM (dj w L U I) args kb->Calls P f kb.toArray w λe w'=>∃v r L' U' I',e=.returned v/\R r U'/\U.length<=U'.length/\Mem (entry w L U I) w' L' U' I'/\dj w' L' U' I' r v
theorem bL.mono{f:FuncId}{args:List V}{R R':V->St->Prop}(h:bL P f args U R)(hR:∀r U',R r U'->R' r U'):bL P f args U R':=λw L I aa hm ha=>(h w L I aa hm ha).mono (by grind)
def VC(P:Program)(c:Ctx)(fv:V)(args:List V)(U:St)(K:V->St->Prop):Prop:=∃f bY,fv=.fn f bY/\(((∃fn,P.funcs[f]?=some fn/\(fn.name=="runtime.NumGoroutine")=false/\fn.body.isSome=true)/\∀w L I kb,Mem c w L U I->bM (dj w L U I) (args++bY) kb->Calls P f kb.toArray w λe w'=>∃v r L' U' I',e=.returned v/\K r U'/\Mem c w' L' U' I'/\Le w L w' L'/\Ext U I U' I'/\dj w' L' U' I' r v)\/∀w L I kb,Mem c w L U I->bM (dj w L U I) (args++bY) kb->∃v r w' L' U' I',(callFunc f kb.toArray).run P w=.ok (.value v) w'/\K r U'/\Mem c w' L' U' I'/\Le w L w' L'/\Ext U I U' I'/\dj w' L' U' I' r v)
theorem VC.mono{c:Ctx}{fv:V}{az:List V}{K K':V->St->Prop}(h:VC P c fv az U K)(hk:∀v s,K v s->K' v s):VC P c fv az U K':=by
 obtain⟨f,bY,h1,⟨h2,h3⟩|h3⟩:=h;.refine⟨f,bY,h1,.inl ⟨h2,λw L I aa hm ha=>(h3 w L I aa hm ha).mono ?_⟩⟩;grind
 .refine⟨f,bY,h1,.inr λw L I aa hm ha=>?_⟩;grind
def wQ(P:Program)(f:FuncId):Bool:=match P.funcs[f]?with|some fn=>!(fn.name=="runtime.NumGoroutine")&&fn.body.isSome|none=>false
theorem IS{f:FuncId}(h:wQ P f):∃fn,P.funcs[f]?=some fn/\(fn.name=="runtime.NumGoroutine")=false/\fn.body.isSome=true:=by unfold wQ at h;grind
def oU(ρ:Nat->Nat)(a' a:V):Prop:=a=dz ρ a'\/∃g rows,a'=.sl .ro rows/\a=.sl g rows
def qB(ρ:Nat->Nat)(a' a:V):Prop:=a=dQ ρ a'\/(∃g rows,a'=.sl .ro rows/\a=.sl g rows)\/∃cs' cs,a'=.agg cs'/\a=.agg cs/\bM (oU ρ) cs' cs
def cR(ρ:Nat->Nat)(a' a:V):Prop:=a=dG ρ a'\/a'=.u\/(∃g rows,a'=.sl .ro rows/\a=.sl g rows)\/(∃cs' cs,a'=.agg cs'/\a=.agg cs/\bM (oU ρ) cs' cs)\/∃gP vs,a'=.cm gP/\a=.cm vs/\bM (qB ρ) gP vs
def gr{J:Type}:aik->List J->List J->List J |i::cS,l,x::xs=>gr cS (l.set i x) xs|_,l,_=>l
theorem oD{J:Type}:∀(cS:aik)(l xs:List J),(gr cS l xs).length=l.length |[],_,_=>by rfl|i::cS,l,[]=>by rfl|i::cS,l,x::xs=>by simp[gr,oD cS]
theorem uA{J:Type}:∀(cS:aik)(l xs:List J)(j:Nat),j∉cS->(gr cS l xs)[j]?=l[j]?
 |[],_,_,_,_=>by rfl|i::cS,l,[],_,_=>by rfl|i::cS,l,x::xs,j,h=>by simp only[Ag,not_or]at h;rw[gr,uA cS _ xs j h.2,D9 (λq=>h.1 q.symm)]
theorem IT{J:Type}:∀(cS:aik)(l xs:List J)(i j:Nat),cS.Nodup->(∀q∈cS,q<l.length)->cS.length<=xs.length->cS[i]?=some j->(gr cS l xs)[j]?=xs[i]?
 |[],_,_,_,_,_,_,_,h=>by grind|i0::cS,l,[],_,_,_,_,hl,_=>by grind|i0::cS,l,x::xs,0,j,hn,aa,hl,h=>by simp at h;subst h;rw[Bk]at hn;rw[gr,uA cS _ xs i0 hn.1,Bc (aa i0 sm)];rfl|i0::cS,l,x::xs,i+1,j,hn,aa,hl,h=>by rw[Bk]at hn;rw[gr,IT cS _ xs i j hn.2 (λq hq=>by simp;exact aa q (by simp[hq])) (sU hl) (sU h)];simp
def wD(cS:aik)(Uc U':St):St:=gr cS Uc ((U'.take cS.length).map (yO (cO cS Uc.length)))++(U'.drop cS.length).map (yO (cO cS Uc.length))
def sV(cS:aik)(Ic I':ail):ail:=gr cS Ic (I'.take cS.length)++I'.drop cS.length
section
variable {P:Program} {c:Ctx}
variable {cS:aik}{i:Nat}
theorem jD{N:Nat}(h:i<cS.length):cO cS N i=cS[i]:=by grind[cO]
theorem rU{N:Nat}(h:¬i<cS.length):cO cS N i=N+(i-cS.length):=by grind[cO]
theorem EU{Uc U':St}(hn:cS.Nodup)(aa:∀q∈cS,q<Uc.length)(hl:cS.length<=U'.length){o:Ob}(h:U'[i]?=some o):(wD cS Uc U')[cO cS Uc.length i]?=some (yO (cO cS Uc.length) o):=by
 unfold wD;by_cases hi:i<cS.length;.rw[jD hi,Be (by rw[oD];exact aa _ (A7 hi)),IT cS _ _ i _ hn aa (by simp;omega) (A0 hi),B1,Aw,ahP hi,h];rfl
 .rw[rU hi,Bb (by rw[oD];omega),oD,B1,C7,show cS.length+(Uc.length+(i-cS.length)-Uc.length)=i by omega,h];rfl
theorem Qg{Ic I':ail}(hn:cS.Nodup)(aa:∀q∈cS,q<Ic.length)(hl:cS.length<=I'.length){x:Value}(h:I'[i]?=some x):(sV cS Ic I')[cO cS Ic.length i]?=some x:=by
 unfold sV;by_cases hi:i<cS.length;.rw[jD hi,Be (by rw[oD];exact aa _ (A7 hi)),IT cS _ _ i _ hn aa (by simp;omega) (A0 hi),Aw,ahP hi,h]
 grind[rU,oD]
theorem XW{cS:aik}{Uc U':St}{Ic I':ail}(hn:cS.Nodup)(aa:∀q∈cS,q<Uc.length)(ad:Ic.length=Uc.length)(ae:I'.length=U'.length)(hl:cS.length<=U'.length){j:Nat}{o:Ob}{x:Value}(h1:(wD cS Uc U')[j]?=some o)(h2:(sV cS Ic I')[j]?=some x):(∃(i:Nat)(o':Ob),j=cO cS Uc.length i/\U'[i]?=some o'/\o=yO (cO cS Uc.length) o'/\I'[i]?=some x)\/(j∉cS/\j<Uc.length/\Uc[j]?=some o/\Ic[j]?=some x):=by
 have ab:∀q∈cS,q<Ic.length:=by grind
 by_cases hj:j<Uc.length
 .by_cases hm:j∈cS;.obtain⟨i,hi⟩:=Av.1 hm;obtain⟨af,ag⟩:=A5.1 hi;have e1:=EU hn aa hl (A0 (show i<U'.length by omega));grind[Qg,jD]
  grind[wD,sV,oD,uA]
 grind[wD,sV,oD,rU]
theorem LI{J I γ:Type}{A:J->I->Prop}{B:I->γ->Prop}{C:J->γ->Prop}(h:∀a b c,A a b->B b c->C a c):∀{l:List J}{m:List I}{n:List γ},bM A l m->bM B m n->bM C l n|[],[],[],_,_=>trivial|_::_,_::_,_::_,p,q=>⟨h _ _ _ p.1 q.1,LI h p.2 q.2⟩|[],_::_,_,p,_=>p.elim|_::_,[],_,p,_=>p.elim|[],[],_::_,_,q=>q.elim|_::_,_::_,[],_,q=>q.elim
section
variable{ρ:Nat->Nat}{w:World}{L:Nat->Nat}{U Uc:St}{I Ic:ail}
variable {a':V}{a:V}{x:Value}
theorem XX(h:sS ρ U I Uc Ic)(ha:oU ρ a' a)(r:cU w L Uc Ic a x):cU w L U I a' x:=by
 rcases ha with rfl|⟨g,rows,rfl,rfl⟩;.exact r.jm h
 .exact sL (by simpa)
theorem Qh(h:sS ρ U I Uc Ic)(ha:qB ρ a' a)(r:dT w L Uc Ic a x):dT w L U I a' x:=by
 rcases ha with rfl|⟨g,rows,rfl,rfl⟩|⟨ab,cs,rfl,rfl,aa⟩;.exact r.jm h
 .exact sL (dj.lD r)
 .obtain⟨xs,hx,hr⟩:=r;exact⟨xs,hx,(by grind[LI,XX])⟩
theorem zf(h:sS ρ U I Uc Ic)(ha:cR ρ a' a)(r:dj w L Uc Ic a x):dj w L U I a' x:=by
 rcases ha with rfl|rfl|⟨g,rows,rfl,rfl⟩|⟨ab,cs,rfl,rfl,aa⟩|⟨gP,vs,rfl,rfl,aa⟩;.exact r.jm h
 .trivial
 .exact sL r
 .exact dj.lD (Qh h (.inr (.inr ⟨ab,cs,rfl,rfl,aa⟩)) r)
 .obtain⟨xs,hx,hr⟩:=r;exact⟨xs,hx,(by grind[LI,Qh])⟩
end
theorem VC.of{f:FuncId}{bY args cc:List V}{Uc gp:St}{R:V->St->Prop}{K:V->St->Prop}(hc:bL P f cc gp R)(hb:wQ P f)(cS:aik)(al:cS.Nodup)(hlen:gp.length=cS.length)(a8:∀(i j:Nat)(o:Ob),cS[i]?=some j->gp[i]?=some o->Uc[j]?=some (yO (cO cS Uc.length) o))(ai:bM (cR (cO cS Uc.length)) cc (args++bY))(hk:∀r U',R r U'->cS.length<=U'.length->K (dG (cO cS Uc.length) r) (wD cS Uc U')):VC P c (.fn f bY) args Uc K:=by
 refine⟨f,bY,rfl,.inl ⟨IS hb,λw L Ic af hm hv=>?_⟩⟩;have ag:∀q∈cS,q<Uc.length:=λq hq=>by obtain⟨i,hi⟩:=Av.1 hq;have ak:=(A5.1 hi).1;have:=a8 i q _ hi (A0 (show i<gp.length by omega));grind
 let oV:=cS.map λq=>Ic.getD q undef;have an:∀(i j:Nat),cS[i]?=some j->oV[i]?=Ic[j]?:=λi j hi=>by simp only[oV,B1,hi,Bi];have hj:=ag j (by grind);rw[A9,A0 (by rw[hm.len];exact hj)];rfl
 have aj:∀(id:Nat) O,Uc[cO cS Uc.length id]?=some O->∃o,gp[id]?=some o/\O=yO (cO cS Uc.length) o:=(by grind[jD,rU]);have ah:sS (cO cS Uc.length) gp oV Uc Ic:=by
  refine⟨λid x hx=>?_,λid n s hx=>?_,λid rows s hx=>?_,λid hx=>?_⟩
  .by_cases hi:id<cS.length;.grind[jD]
   .rw[rU hi]at hx;have:=(A5.1 hx).1;rw[hm.len]at this;omega
  .obtain⟨o,ho,he⟩:=aj id _ hx;cases o<;>grind[yO]
  .obtain⟨o,ho,he⟩:=aj id _ hx;cases o<;>grind[yO]
  .obtain⟨o,ho,he⟩:=aj id _ hx;cases o with|dead=>exact ho|_=>simp[yO]at he
 have ae:∀(i:Nat)(o:Ob)(x:Value),gp[i]?=some o->oV[i]?=some x->∃j,cS[i]?=some j/\Uc[j]?=some (yO (cO cS Uc.length) o)/\Ic[j]?=some x:=by grind
 have aA:Mem (entry w L gp oV) w L gp oV:=by
  refine⟨by grind,λi o x ho hx=>?_,λi j o o' x x' b a7 ho hx av aw he=>?_,λi o x b ho hx he=>?_,λb _ _=>(by trivial),Le.refl _ _,A6 _,rfl,rfl,rfl,A6 _,hm.lim,Ext.refl _ _,hm.jl.mono hm.le⟩;.obtain⟨j,hj,h1,h2⟩:=ae i o x ho hx;exact(hm.cW j _ x h1 h2).jm ah
  .obtain⟨p,hp,h1,h2⟩:=ae i o x ho hx;obtain⟨q,hq,h3,h4⟩:=ae j o' x' av aw;have aB:p≠q:=(by grind[List.getElem_inj]);have:=hm.apart p q _ _ x x' b aB h1 h2 h3 h4 (by grind[sT]);grind[sT]
  .exact .inr (gF.2 (by grind))
 have aC:bM (dj w L gp oV) cc af:=by clear hk hc;generalize args++bY=az at hv ai;induction cc generalizing az af with
  |nil=>cases az with |nil=>cases af<;>simpa|cons _ _=>trivial
  |cons p cc ih=>cases az with|nil=>trivial|cons q az=>cases af with |nil=>simpa|cons y ys=>exact⟨zf ah ai.1 hv.1,ih _ _ hv.2 ai.2⟩
 refine(hc w L oV af aA aC).mono λe w' ⟨v,r,L',U',I',he,hR,aH,aa,aD⟩=>?_;have ax:cS.length<=U'.length:=om;have aE:∀q∈cS,q<Ic.length:=by rw[hm.len];omega
 have ad:ET (cO cS Uc.length) U' I' (wD cS Uc U') (sV cS Ic I'):=by refine⟨λid x hx=>?_,λid n s hx=>EU al ag ax hx,λid rows s hx=>⟨_,EU al ag ax hx,sm⟩,λid hx=>EU al ag ax hx⟩;have:=Qg al aE (by rw[aa.len];omega) hx;rw[hm.len]at this;omega
 have ao:∀(j:Nat)(o:Ob)(x:Value)(b:Nat),j∉cS->Uc[j]?=some o->Ic[j]?=some x->cP o x=some b->b∉uz gp oV:=by intro j o x b hj ho hx he hb;obtain⟨i,o',x',h1,h2,h3⟩:=gF.1 hb;obtain⟨p,hp,h4,h5⟩:=ae i o' x' h1 h2;have aF:j≠p:=(by grind);exact hm.apart j p o _ x x' b aF ho hx h4 h5 he (by grind[sT])
 have ay:∀b,b∈uz gp oV->c.w0.heap.size<=b\/b∈c.X0:=by intro b hb;obtain⟨i,o',x',h1,h2,h3⟩:=gF.1 hb;obtain⟨p,hp,h4,h5⟩:=ae i o' x' h1 h2;exact hm.fO p _ x' b h4 h5 (by grind[sT])
 have aq:Ext Uc Ic (wD cS Uc U') (sV cS Ic I'):=by
  refine⟨λid a ha=>?_,λid n s ha=>?_,λid rows s ha=>?_,λid ha=>?_⟩
  .have ar:id<Ic.length:=(by grind);by_cases hs:id∈cS;.obtain⟨i,hi⟩:=Av.1 hs;have h1:=an i id hi;rw[ha]at h1;have h2:=aa.ext.ptr i a h1;have h3:=ad.val i _ h2;grind[jD]
   grind[sV,oD,uA]
  .have ar:id<Uc.length:=(by grind);by_cases hs:id∈cS
   .obtain⟨i,hi⟩:=Av.1 hs;obtain⟨ak,au⟩:=A5.1 hi;have h1:=ah.app i n s (by grind[jD]);obtain⟨n',h2,h3,h4⟩:=aa.ext.app i n s h1;have h5:=ad.app i n' s h2;rw[jD ak,au]at h5;refine⟨n',h5,h3,λe=>?_⟩;have h6:=h4 e;rw[show(entry w L gp oV).β0=oV from rfl,an i id hi]at h6;have a1:i<I'.length:=by grind
    have h7:=ad.val i _ (A0 a1);grind[jD]
   .refine⟨n,?_,om,λ_=>?_⟩;.grind[wD,oD,uA]
    .unfold sV;rw[Be (by rw[oD,hm.len];omega),uA _ _ _ _ hs]
  .have ar:id<Uc.length:=(by grind);by_cases hs:id∈cS
   .obtain⟨i,hi⟩:=Av.1 hs;obtain⟨ak,au⟩:=A5.1 hi;obtain⟨r0,h1,l1⟩:=ah.cj i rows s (by grind[jD]);rcases aa.ext.cj i r0 s h1 with h2|⟨r2,h2,h3,h4⟩;.have h5:=ad.dead i h2;grind[jD]
    .obtain⟨r3,h5,l5⟩:=ad.cj i r2 s h2;rw[jD ak,au]at h5;refine .inr ⟨r3,h5,om,λe=>?_⟩;have h6:=h4 om;rw[show(entry w L gp oV).β0=oV from rfl,an i id hi]at h6;have a1:i<I'.length:=by grind
     have h7:=ad.val i _ (A0 a1);rw[jD ak,au]at h7;grind
   .refine .inr ⟨rows,?_,om,λ_=>?_⟩;.grind[wD,oD,uA]
    .unfold sV;rw[Be (by rw[oD,hm.len];omega),uA _ _ _ _ hs]
  .have ar:id<Uc.length:=(by grind);by_cases hs:id∈cS;.obtain⟨i,hi⟩:=Av.1 hs;obtain⟨ak,au⟩:=A5.1 hi;have h1:=ah.dead i (by grind[jD]);have h5:=ad.dead i (aa.ext.dead i h1);grind[jD]
   grind[wD,oD,uA]
 have hinv:=@XW cS Uc U' Ic I' al ag hm.len aa.len ax;refine⟨v,dG (cO cS Uc.length) r,L',_,_,he,(by grind),?_,aa.le,aq,aD.mz ad⟩;refine⟨?_,λj o x ho hx=>?_,λj j' o o' x x' b a7 ho hx av aw ab=>?_,λj o x b ho hx ab=>?_,λb ab hx=>?_,hm.le.trans aa.le,Ao hm.size aa.size,aa.os.trans hm.os,aa.tape.trans hm.tape,aa.output.trans hm.output,Ao hm.drawn aa.drawn,aa.lim,hm.ext.trans aq,hm.jl⟩;.simp[wD,sV,oD,hm.len,aa.len]
 .rcases hinv ho hx with⟨i,o',rfl,h1,rfl,h2⟩|⟨h0,a6,h1,h2⟩;.exact(aa.cW i o' x h1 h2).mz ad
  .refine(hm.cW j o x h1 h2).step aa.le aq λb ab=>aa.same b ?_ (ao j o x b h0 h1 h2 ab);exact(hm.cW j o x h1 h2).eH ab
 .rcases hinv ho hx with⟨i,o1,rfl,h1,rfl,h2⟩|⟨h0,a6,h1,h2⟩
  .rw[sT]at ab;rcases hinv av aw with⟨i',o2,rfl,h3,rfl,h4⟩|⟨h0,a6,h3,h4⟩;.rw[sT];exact aa.apart i i' o1 o2 x x' b (by grind) h1 h2 h3 h4 ab
   .intro q;rcases aa.fO i o1 x b h1 h2 ab with h5|h5;.have:=(hm.cW j' o' x' h3 h4).eH q;have h6:w.heap.size<=b:=h5;omega
    .exact ao j' o' x' b h0 h3 h4 q h5
  .rcases hinv av aw with⟨i',o2,rfl,h3,rfl,h4⟩|⟨aJ,aI,h3,h4⟩
   .rw[sT];intro q;rcases aa.fO i' o2 x' b h3 h4 q with h5|h5;.have:=(hm.cW j o x h1 h2).eH ab;have h6:w.heap.size<=b:=h5;omega
    .exact ao j o x b h0 h1 h2 ab h5
   .exact hm.apart j j' o o' x x' b a7 h1 h2 h3 h4 ab
 .rcases hinv ho hx with⟨i,o1,rfl,h1,rfl,h2⟩|⟨h0,a6,h1,h2⟩
  .rw[sT]at ab;rcases aa.fO i o1 x b h1 h2 ab with h5|h5;.exact .inl (Ao hm.size h5)
   .exact ay b h5
  .exact hm.fO j o x b h1 h2 ab
 .have aG:b∉uz gp oV:=(by grind);obtain⟨e1,e2⟩:=aa.same b (Dh ab hm.size) aG;obtain⟨e3,e4⟩:=hm.same b ab hx;exact⟨e1.trans e3,e2.trans e4⟩
structure gy(n0:Nat)(pick:aik)(U U':St):Prop where
 len:U'.length=pick.length
 nodup:pick.Nodup
 ob:∀(i j:Nat)(o:Ob),pick[i]?=some j->U'[i]?=some o->U[j]?=some (yO (cO pick U.length) o)id:∀i,i<n0->pick[i]?=some i
theorem gy.back{n0:Nat}{pick:aik}{U U':St}(h:gy n0 pick U U')(id:Nat)(O:Ob)(hx:U[cO pick U.length id]?=some O):∃o,U'[id]?=some o/\O=yO (cO pick U.length) o:=by
 by_cases hi:id<pick.length;.rw[jD hi]at hx;have hq:=A0 (show id<U'.length by rw[h.len];exact hi);have:=h.ob id _ _ (A0 hi) hq;grind
 grind[rU]
theorem gy.jm{n0:Nat}{pick:aik}{U U':St}{I:ail}(h:gy n0 pick U U')(hl:I.length=U.length):sS (cO pick U.length) U' (pick.map λq=>I.getD q undef) U I:=by
 refine⟨λid x hx=>?_,λid n s hx=>?_,λid rows s hx=>?_,λid hx=>?_⟩;.grind[jD,rU]
 .obtain⟨o,ho,he⟩:=h.back id _ hx;cases o<;>grind[yO]
 .obtain⟨o,ho,he⟩:=h.back id _ hx;cases o<;>grind[yO]
 .obtain⟨o,ho,he⟩:=h.back id _ hx;cases o with|dead=>exact ho|_=>simp[yO]at he
theorem Mem.pick{w:World}{L:Nat->Nat}{U U':St}{I:ail}{pick:aik}(h:Mem c w L U I)(hp:gy c.cd.length pick U U')(hc:c.β0.length=c.cd.length):Mem c w L U' (pick.map λq=>I.getD q undef):=by
 have ab:=hp.jm h.len;have aa:∀(i:Nat)(o:Ob)(x:Value),U'[i]?=some o->(pick.map λq=>I.getD q undef)[i]?=some x->∃j,pick[i]?=some j/\U[j]?=some (yO (cO pick U.length) o)/\I[j]?=some x:=by
  intro i o x ho hx;have hi:i<pick.length:=by grind
  have hs:=A0 hi;have h1:=hp.ob i _ o hs ho;refine⟨_,hs,h1,?_⟩;have al:pick[i]<I.length:=by rw[h.len];grind
  grind
 refine⟨by simp[hp.len],λi o x ho hx=>?_,λi j o o' x x' b ah ho hx ai aj he=>?_,λi o x b ho hx he=>?_,h.same,h.le,h.size,h.os,h.tape,h.output,h.drawn,h.lim,?_,h.jl⟩;.obtain⟨j,hj,h1,h2⟩:=aa i o x ho hx;exact(h.cW j _ x h1 h2).jm ab
 .obtain⟨p,ag,h1,h2⟩:=aa i o x ho hx;obtain⟨q,hq,h3,h4⟩:=aa j o' x' ai aj;have ak:p≠q:=λe=>by subst e;obtain⟨hi,e1⟩:=A5.1 ag;obtain⟨hj,e2⟩:=A5.1 hq;exact ah ((List.getElem_inj hp.nodup).1 om)
  have:=h.apart p q _ _ x x' b ak h1 h2 h3 h4 (by grind[sT]);grind[sT]
 .obtain⟨p,ag,h1,h2⟩:=aa i o x ho hx;exact h.fO p _ x b h1 h2 (by grind[sT])
 .refine⟨λid a ha=>?_,λid n s ha=>?_,λid rows s ha=>?_,λid ha=>?_⟩
  .have hid:id<c.cd.length:=by grind
   have h1:=h.ext.ptr id a ha;rw[B1,hp.id id hid];grind
  .have hid:id<c.cd.length:=(by grind);obtain⟨n',h1,h2,h3⟩:=h.ext.app id n s ha;have ad:=hp.id id hid;obtain⟨ae,af⟩:=A5.1 ad;refine⟨n',ab.app id n' s (by grind[jD]),h2,λe=>?_⟩;grind
  .have hid:id<c.cd.length:=(by grind);have ad:=hp.id id hid;obtain⟨ae,af⟩:=A5.1 ad;rcases h.ext.cj id rows s ha with h1|⟨r2,h1,h2,h3⟩;.exact .inl (ab.dead id (by grind[jD]))
   .obtain⟨r3,h5,l5⟩:=ab.cj id r2 s (by grind[jD]);grind
  .have hid:id<c.cd.length:=(by grind);have ad:=hp.id id hid;obtain⟨ae,af⟩:=A5.1 ad;exact ab.dead id (by rw[jD ae,af];exact h.ext.dead id ha)
end
def ij(id:Nat)(rows:List (List V)):V->V |.cL i s n lo m=>if i=id/\n=rows.length/\lo+m<=n then .sl .ro (gE rows lo m)else .cL i s n lo m|v=>v
def iE(id:Nat)(rows:List (List V)):V->V |.fn f bY=>.fn f (bY.map (ij id rows))|.gW t vs=>.gW t (vs.map (ij id rows))|v=>ij id rows v
def iF(id:Nat)(rows:List (List V)):V->V |.agg cs=>.agg (cs.map (iE id rows))|v=>iE id rows v
def fr(id:Nat)(rows:List (List V)):V->V |.cm vs=>.cm (vs.map (iF id rows))|v=>iF id rows v
def sW(id:Nat)(rows:List (List V)):Ob->Ob |.box cells=>.box (cells.map (iE id rows))|.cj rs s=>.cj (rs.map λr=>r.map (iE id rows)) s|.mp dD gk cM=>.mp (dD.map (iF id rows)) gk cM|o=>o
def lk(id:Nat)(rows:List (List V))(U:St):St:=(U.set id .dead).map (sW id rows)
structure sX(U U':St):Prop where
 app:∀(id:Nat) n s,U[id]?=some (.app n s)->U'[id]?=some (.app n s)cj:∀(id:Nat) rows s,U[id]?=some (.cj rows s)->∃fp,U'[id]?=some (.cj fp s)/\fp.length=rows.length
 dead:∀(id:Nat),U[id]?=some .dead->U'[id]?=some .dead
section
variable{w:World}{L:Nat->Nat}{U U':St}{I:ail}
theorem gC.LJ(h:sX U U'){v:V}{x:Value}(r:gC w L U I v x):gC w L U' I v x:=by cases v with
 |sl g rows=>cases g with |app id=>obtain⟨hr,n,s,cD,hle,dd,hl⟩:=r;exact⟨hr,n,s,h.app _ _ _ cD,hle,dd,hl⟩|ro=>exact r|full=>exact r
 |cL id s n lo m=>
  obtain⟨a,cap,hx,hm,ha,hc⟩:=r;refine⟨a,cap,hx,hm,ha,?_⟩;rcases hc with hd|⟨rows,cD,hn,hb⟩;.exact .inl (h.dead id hd)
  .obtain⟨r2,e2,l2⟩:=h.cj id rows s cD;grind|jj id s n i j=>
  obtain⟨b,o,hx,hc⟩:=r;refine⟨b,o,hx,?_⟩;rcases hc with hd|⟨rows,cD,hn,hb⟩;.exact .inl (h.dead id hd)
  .obtain⟨r2,e2,l2⟩:=h.cj id rows s cD;grind|_=>exact r
theorem sX.GM{id:Nat}{rows:List (List V)}(U:St):sX U (U.map (sW id rows)):=by
 refine⟨λi n s h=>?_,λi rs s h=>⟨_,by rw[B1,h];rfl,sm⟩,λi h=>?_⟩;.rw[B1,h];rfl
 .rw[B1,h];rfl
theorem XY{c:Ctx}{L':Nat->Nat}{id s n lo m:Nat}{rows:List (List V)}{x:Value}(hm:Mem c w L U I)(cD:U[id]?=some (.cj rows s))(hp:xB rows)(hL:∀b n' cap,I[id]?=some (.slice (some ⟨b,0,none⟩) n' cap)->0<cap->rows.length*s<=L' b)(hle:Le w L w L')(r:gC w L U I (.cL id s n lo m) x)(hn:n=rows.length)(av:lo+m<=n):cy w L' (.sl .ro (gE rows lo m)) x:=by
 obtain⟨a,cap,rfl,aw,ab,hc⟩:=r;have aj:(gE rows lo m).length=m:=by grind[gE]
 by_cases h0:m=0
 .subst h0;have:gE rows lo 0=[]:=by rfl
  rw[this];exact .jk _ _ _ sm sm
 rcases hc with hd|⟨cx,ad,ax,hb⟩;.grind
 .rw[cD]at ad;cases ad;obtain⟨b0,c0,dd,db,ay,aa⟩:=hb hn;clear hb ab;have az:0<m:=om;have ak:lo<c0:=om;obtain⟨k0,rfl,rfl⟩:=aa ak;clear aa;have ae:0<c0:=om;have a1:=hL _ _ _ dd ae;obtain⟨a2,ar,e1,au,af,al,cK⟩:=hm.cW id _ _ cD dd;cases e1;obtain⟨b',arr,T,fz,e2,hh,_,a6,_,ag⟩:=cK ae;cases e2;clear cK;have hu:eM s (gE rows lo m):=λq hq=>by obtain⟨q0,a7,rfl⟩:=Aa.1 hq;grind
  have an:=yD hu;rw[aj]at an;have ao:(lo+m)*s<=rows.length*s:=Ae _ om;rw[B0]at ao;have key:cy w L' (.sl .ro (gE rows lo m)) (.slice (some ⟨k0,lo*s,none⟩) (gE rows lo m).length cap):=by
   refine .of_flat af hu (by grind) om sm sm λk v hk=>?_;have a8:k<m*s:=by grind
   have hi:k/s<m:=by simp_all[C4]
   have hj:k%s<s:=Ci _ af;have aq:k=k/s*s+k%s:=by grind[Cw]
   rw[aq,yV _ _ hu hj]at hk;simp only[gE,B1,Aw,ahP hi,C7]at hk;have ah:lo+k/s<rows.length:=om;rw[A0 ah]at hk;simp only[Bi,An,B1,Ar]at hk;obtain⟨v0,aA,rfl⟩:=hk;have hf:rows.flatten[(lo+k/s)*s+k%s]?=some v0:=by rw[yV _ _ al hj,A0 ah];grind
   obtain⟨z,hz,rz⟩:=ag.get _ _ hf;have ai:(lo+k/s)*s+k%s=lo*s+k:=by grind
   rw[ai,Aw,ahP om,Am]at hz;refine⟨z,by simp only[World.cell?,hh];grind,?_⟩;refine(cU.pT rz ?_).mono hle;unfold xB at hp;grind
  grind
def iG(I:ail)(id k:Nat)(L:Nat->Nat):Nat->Nat:=match I[id]?with |some (.slice (some a) _ cap)=>if 0<cap then xQ L a.block k else L|_=>L
theorem Qi{c:Ctx}{id s:Nat}{rows:List (List V)}(hm:Mem c w L U I)(cD:U[id]?=some (.cj rows s))(hp:xB rows):Mem c w (iG I id (rows.length*s) L) (lk id rows U) I/\Le w L w (iG I id (rows.length*s) L)/\Ext U I (lk id rows U) I/\(∀v x,dj w L U I v x->dj w (iG I id (rows.length*s) L) (lk id rows U) I (fr id rows v) x):=by
 have ao:id<U.length:=(by grind);obtain⟨x0,dd⟩:∃x0,I[id]?=some x0:=⟨_,A0 (by rw[hm.len];exact ao)⟩;obtain⟨a,cap,rfl,db,hs,aB,cK⟩:=hm.cW id _ _ cD dd;have aC:rows.length*s<=cap*s:=Ae _ db;have hle:Le w L w (iG I id (rows.length*s) L):=by refine⟨λb=>?_,sm⟩;unfold iG;rw[dd];cases a with |none=>simp|some a=>
   by_cases h0:0<cap;.obtain⟨b',arr,T,fz,e,hh,hf,ah,hl,a8⟩:=cK h0;cases e;simp only[h0,ai0,xQ];grind
   grind
 have ad:Ext U I (U.set id .dead) I:=by refine⟨sm,(by grind),(by grind),(by grind)⟩;all_goals grind
 have ab:sX (U.set id .dead) (lk id rows U):=sX.GM _;have ae:Ext (U.set id .dead) I (lk id rows U) I:=⟨sm,λi n s' h=>⟨n,ab.app i n s' h,om,λ_=>rfl⟩,λi rs s' h=>by obtain⟨r2,h2,l2⟩:=ab.cj i rs s' h;grind,λi h=>ab.dead i h⟩;have aq:∀b n' aa,I[id]?=some (.slice (some ⟨b,0,none⟩) n' aa)->0<aa->rows.length*s<=iG I id (rows.length*s) L b:=(by simp_all[iG,xQ]);have al:∀v x,gC w L U I v x->gC w (iG I id (rows.length*s) L) (lk id rows U) I (ij id rows v) x:=λv x r=>by have ar:gC w (iG I id (rows.length*s) L) (lk id rows U) I v x:=gC.LJ ab (r.mono hle ad);cases v with
  |cL i s' n lo m=>
   simp only[ij];split
   .rename_i hc;obtain⟨rfl,hn,au⟩:=hc;have af:s'=s:=by obtain⟨_,_,_,_,_,hc⟩:=r;grind
    subst af;exact XY hm cD hp aq hle r hn au
   omega|_=>exact ar
 have av:∀v x,cU w L U I v x->cU w (iG I id (rows.length*s) L) (lk id rows U) I (iE id rows v) x:=λv x r=>by cases v with
  |fn f bY=>obtain⟨xs,hx,hc⟩:=r;exact⟨xs,hx,(by grind[bM.fF])⟩|gW t v=>obtain⟨y,hx,hc⟩:=r;exact⟨y,hx,(by grind[bM.fF])⟩|cL i s' n lo m=>
   have h2:=al (.cL i s' n lo m) x r;show cU w _ _ I (ij id rows (.cL i s' n lo m)) x;simp only[ij]at h2⊢;split;.rename_i hc;rw[ahP hc]at h2;exact h2
   .rename_i hc;rw[ahO hc]at h2;exact h2|_=>simp only[cU]at r;have h2:=al _ _ r;exact h2
 have aw:∀v x,dT w L U I v x->dT w (iG I id (rows.length*s) L) (lk id rows U) I (iF id rows v) x:=λv x r=>by cases v with |agg cs=>obtain⟨xs,hx,hc⟩:=r;exact⟨xs,hx,(by grind[bM.fF])⟩|_=>simp only[dT]at r;have h2:=av _ _ r;exact dT.dv h2
 have ax:∀v x,dj w L U I v x->dj w (iG I id (rows.length*s) L) (lk id rows U) I (fr id rows v) x:=λv x r=>by cases v with|u=>trivial|cm vs=>obtain⟨xs,hx,hc⟩:=r;exact⟨xs,hx,(by grind[bM.fF])⟩|_=>simp only[dj]at r;have h2:=aw _ _ r;exact dj.lD h2
 refine⟨?_,hle,ad.trans ae,ax⟩;have ai:∀b,cP (.cj rows s) (.slice a rows.length cap)≠some b->iG I id (rows.length*s) L b=L b:=λb h=>by unfold iG;rw[dd];cases a with |none=>rfl|some a=>
   by_cases h0:0<cap;.simp_all[cP,xQ];omega
   grind
 have aD:∀i o x,i≠id->U[i]?=some o->I[i]?=some x->gN w (iG I id (rows.length*s) L) (lk id rows U) I (sW id rows o) x:=λi o x hi ho hx=>by have hr:=hm.cW i o x ho hx;have aj:∀b,cP o x=some b->iG I id (rows.length*s) L b=L b:=λb hb=>ai b λq=>hm.apart i id o _ x _ b hi ho hx cD dd hb q;cases o with
  |box cells=>obtain⟨b,arr,T,fz,rfl,hh,hf,hl,hc⟩:=hr;exact⟨b,arr,T,fz,rfl,hh,hf,(aj b rfl).trans hl,(by grind[bM.fF])⟩|app n s'=>obtain⟨a',aa,rfl,hn,af,ag⟩:=hr;refine⟨a',aa,rfl,hn,af,λay=>?_⟩;obtain⟨b,o',arr,T,fz,rfl,hh,hf,ah,hl⟩:=ag ay;exact⟨b,o',arr,T,fz,rfl,hh,hf,ah,(by grind[cP])⟩|cj rs s'=>
   obtain⟨a',aa,rfl,hn,af,aE,ag⟩:=hr;refine⟨a',aa,sm,by grind,af,λr hr=>?_,λh0=>?_⟩;.grind
   .obtain⟨b,arr,T,fz,rfl,hh,hf,ah,hl,hc⟩:=ag h0;refine⟨b,arr,T,fz,rfl,hh,hf,ah,(by grind[cP]),?_⟩;grind[bM.fF]|dead=>trivial|mp dD gk cM=>obtain⟨b,es,rfl,hh,hl,hc,az⟩:=hr;exact⟨b,es,rfl,hh,(aj b rfl).trans hl,(by grind[bM.fF]),az⟩|it m since seen last=>obtain⟨b,mo,rfl,hh,hl,hc⟩:=hr;exact⟨b,mo,rfl,hh,(aj b rfl).trans hl,hc⟩
 have inv:∀i o,(lk id rows U)[i]?=some o->(i=id/\o=.dead)\/(i≠id/\∃o',U[i]?=some o'/\o=sW id rows o'):=λi o h=>by
  unfold lk at h;rw[B1,Ar]at h;obtain⟨o',h1,rfl⟩:=h;rcases oR h1 with⟨rfl,rfl,_⟩|⟨ak,h2⟩;.exact .inl (by trivial)
  grind
 have an:∀o x,cP (sW id rows o) x=cP o x:=λo x=>by cases o with
  |cj rs s'=>cases x with|slice a n cap=>cases a<;>rfl|_=>rfl
  |_=>cases x<;>first|rfl|(rename_i q;cases q<;>rfl)
 refine⟨by simp[lk,hm.len],λi o x ho hx=>?_,λi j o o' x x' b a1 ho hx a6 a7 hb=>?_,λi o x b ho hx hb=>?_,λb hb hx=>?_,hm.le.trans hle,hm.size,hm.os,hm.tape,hm.output,hm.drawn,λb hb=>?_,hm.ext.trans (ad.trans ae),hm.jl⟩
 .rcases inv i o ho with⟨_,rfl⟩|⟨ak,o',h2,rfl⟩;.trivial
  grind
 .rcases inv i o ho with⟨_,rfl⟩|⟨ak,o1,h2,rfl⟩;.trivial
  .rcases inv j o' a6 with⟨_,rfl⟩|⟨aA,o2,h3,rfl⟩;.simp[cP]
   .rw[an]at hb⊢;exact hm.apart i j o1 o2 x x' b a1 h2 hx h3 a7 hb
 .rcases inv i o ho with⟨_,rfl⟩|⟨ak,o1,h2,rfl⟩;.trivial
  .rw[an]at hb;exact hm.fO i o1 x b h2 hx hb
 .obtain⟨e1,e2⟩:=hm.same b hb hx;refine⟨e1,?_⟩;rw[ai b λq=>?_];.exact e2
  .rcases hm.fO id _ _ b cD dd q with h|h;all_goals grind
 .rw[ai b λq=>?_];.exact hm.lim b hb
  .have:=(hm.cW id _ _ cD dd).eH q;omega
end
variable{c:Ctx}{w:World}{U:St}{cells:List V}{L:Nat->Nat}{I:ail}{off:Nat}
theorem Qj{id s:Nat}(hm:Mem c w L U I)(hs:0<s)(cD:U[id]?=some (.box cells))(hc:cells[off]?=some (.sl .full [])):∃x,Mem c w L (U.set id (.box (cells.set off (.cL U.length s 0 0 0)))++[.cj [] s]) (I++[x])/\Ext U I (U.set id (.box (cells.set off (.cL U.length s 0 0 0)))++[.cj [] s]) (I++[x]):=by
 have ag:id<U.length:=(by grind);obtain⟨x0,dd⟩:∃x0,I[id]?=some x0:=⟨_,A0 (by rw[hm.len];exact ag)⟩;obtain⟨b,arr,T,fz,rfl,hh,hf,hl,ab⟩:=hm.cW id _ _ cD dd;obtain⟨y,hy,ry⟩:=ab.get _ _ hc;have al:cy w L (.sl .full []) y:=ry;obtain⟨a,cap,aj,_,db⟩:=al.len;have ad:=db rfl;simp only[D8]at ad aj;subst ad;have h1:=hm.mw (s:=s) (a:=a) hs;have ae:=Ext.push U I hm.len (.cj [] s) (.slice a 0 0);have ah:(U++[Ob.cj [] s])[id]?=some (.box cells):=by grind
 have ai:(I++[Value.slice a 0 0])[id]?=some (.pointer (some ⟨b,0,none⟩)):=by grind
 have aa:Ext (U++[Ob.cj [] s]) (I++[Value.slice a 0 0]) ((U++[Ob.cj [] s]).set id (.box (cells.set off (.cL U.length s 0 0 0)))) (I++[Value.slice a 0 0]):=Ext.jH ah _;have af:=yQ _ _ _ ai;have key:=h1.fe (w':=w) (L':=L) id (.box (cells.set off (.cL U.length s 0 0 0))) (.pointer (some ⟨b,0,none⟩)) (Le.refl _ _) (by grind) (λk=>k=b) (λj o' x' k hj an ao hk e=>by subst e;exact h1.apart j id o' _ x' _ k hj an ao ah ai hk rfl) (λk e=>by subst e;exact h1.fO id _ _ k ah ai rfl) sm rfl rfl rfl rfl h1.lim ?_ (λk hk=>by simpa[cP]using hk.symm);.rw[af,ai8 _ _ ag]at key;rw[ai8 _ _ ag]at aa;exact⟨_,key,ae.trans aa⟩
 .rw[af];refine⟨b,arr,T,fz,rfl,hh,hf,hl,?_⟩;refine bM.of (by rw[E2];exact ab.length) λk p z hp hz=>?_;rcases oR hp with⟨rfl,rfl,_⟩|⟨ar,aq⟩
  .rw[hy]at hz;cases hz;rw[aj];refine⟨a,0,rfl,om,om,.inr ⟨[],?_,om,λ_=>⟨a,0,?_,rfl,om,om⟩⟩⟩;.grind
   .rw[<-hm.len];simp
  .obtain⟨z',ak,rz⟩:=ab.get _ _ aq;rw[hz]at ak;cases ak;exact rz.mono (Le.refl _ _) (ae.trans aa)
theorem XZ{id s:Nat}(hm:Mem c w L U I)(hs:0<s)(cD:U[id]?=some (.box cells))(hc:cells[off]?=some (.sl .full [])):∃x,Mem c w L (U.set id (.box (cells.set off (.sl (.app U.length) [])))++[.app 0 s]) (I++[x])/\Ext U I (U.set id (.box (cells.set off (.sl (.app U.length) [])))++[.app 0 s]) (I++[x]):=by
 have ag:id<U.length:=(by grind);obtain⟨x0,dd⟩:∃x0,I[id]?=some x0:=⟨_,A0 (by rw[hm.len];exact ag)⟩;obtain⟨b,arr,T,fz,rfl,hh,hf,hl,ab⟩:=hm.cW id _ _ cD dd;obtain⟨y,hy,ry⟩:=ab.get _ _ hc;have al:cy w L (.sl .full []) y:=ry;obtain⟨a,cap,aj,_,db⟩:=al.len;have ad:=db rfl;simp only[D8]at ad aj;subst ad;have h1:=hm.own (n:=0) (a:=a) hs;have ae:=Ext.push U I hm.len (.app 0 s) (.slice a 0 0);have ah:(U++[Ob.app 0 s])[id]?=some (.box cells):=by grind
 have ai:(I++[Value.slice a 0 0])[id]?=some (.pointer (some ⟨b,0,none⟩)):=by grind
 have aa:Ext (U++[Ob.app 0 s]) (I++[Value.slice a 0 0]) ((U++[Ob.app 0 s]).set id (.box (cells.set off (.sl (.app U.length) [])))) (I++[Value.slice a 0 0]):=Ext.jH ah _;have af:=yQ _ _ _ ai;have key:=h1.fe (w':=w) (L':=L) id (.box (cells.set off (.sl (.app U.length) []))) (.pointer (some ⟨b,0,none⟩)) (Le.refl _ _) (by grind) (λk=>k=b) (λj o' x' k hj an ao hk e=>by subst e;exact h1.apart j id o' _ x' _ k hj an ao ah ai hk rfl) (λk e=>by subst e;exact h1.fO id _ _ k ah ai rfl) sm rfl rfl rfl rfl h1.lim ?_ (λk hk=>by simpa[cP]using hk.symm);.rw[af,ai8 _ _ ag]at key;rw[ai8 _ _ ag]at aa;exact⟨_,key,ae.trans aa⟩
 .rw[af];refine⟨b,arr,T,fz,rfl,hh,hf,hl,?_⟩;refine bM.of (by rw[E2];exact ab.length) λk p z hp hz=>?_;rcases oR hp with⟨rfl,rfl,_⟩|⟨ar,aq⟩
  .rw[hy]at hz;cases hz;rw[aj];refine⟨.jk .ro a 0 om sm,0,s,?_,om,λ_=>?_,sm⟩;.grind
   .rw[<-hm.len];simp
  .obtain⟨z',ak,rz⟩:=ab.get _ _ aq;rw[hz]at ak;cases ak;exact rz.mono (Le.refl _ _) (ae.trans aa)
def CC(cells:List V)(s off n:Nat):List (List V):=(List.range n).map λi=>((cells.drop (off+i*s)).take s).map pT
def vJ(id:Nat)(cells:List V):V->V |.j9 i s off n=>if i=id/\0<s/\off+n*s<=cells.length/\((cells.drop off).take (n*s)).all oz=true then .sl .ro (CC cells s off n)else .j9 i s off n|v=>v
theorem X1{s n:Nat}(h:off+n*s<=cells.length):eM s (CC cells s off n):=λr hr=>by obtain⟨i,hi,rfl⟩:=Aa.1 hr;have hi:=D4.1 hi;have:(i+1)*s<=n*s:=Ae _ hi;grind
theorem X2{id:Nat}(hm:Mem c w L U I)(cD:U[id]?=some (.box cells)):∃L',Mem c w L' (U.set id .dead) I/\Le w L w L'/\Ext U I (U.set id .dead) I/\(∀v x,dj w L U I v x->dj w L' (U.set id .dead) I (vJ id cells v) x):=by
 have aj:id<U.length:=(by grind);obtain⟨x0,dd⟩:∃x0,I[id]?=some x0:=⟨_,A0 (by rw[hm.len];exact aj)⟩;obtain⟨b,arr,T,fz,rfl,hh,hf,hl,ae⟩:=hm.cW id _ _ cD dd;have hle:Le w L w (xQ L b cells.length):=by refine⟨λk=>?_,sm⟩;simp only[xQ];grind
 have aa:Ext U I (U.set id .dead) I:=by refine⟨sm,(by grind),(by grind),(by grind)⟩;all_goals grind
 have ab:∀k,k≠b->xQ L b cells.length k=L k:=λk h=>ahO h;have inv:∀i o,(U.set id .dead)[i]?=some o->(i=id/\o=.dead)\/(i≠id/\U[i]?=some o):=(by grind);refine⟨xQ L b cells.length,⟨by simp[hm.len],λi o x ho hx=>?_,λi j o o' x x' k ak ho hx al an hb=>?_,λi o x k ho hx hb=>?_,λk hb hx=>?_,hm.le.trans hle,hm.size,hm.os,hm.tape,hm.output,hm.drawn,λk hb=>?_,hm.ext.trans aa,hm.jl⟩,hle,aa,λv x r=>?_⟩
 .rcases inv i o ho with⟨_,rfl⟩|⟨ad,h2⟩;.trivial
  .exact(hm.cW i o x h2 hx).step hle aa λk hk=>⟨rfl,ab k λe=>by subst e;exact hm.apart i id o _ x _ k ad h2 hx cD dd hk rfl⟩
 .rcases inv i o ho with⟨_,rfl⟩|⟨ad,h2⟩;.trivial
  .rcases inv j o' al with⟨_,rfl⟩|⟨ar,h3⟩;.simp[cP]
   .exact hm.apart i j o o' x x' k ak h2 hx h3 an hb
 .rcases inv i o ho with⟨_,rfl⟩|⟨ad,h2⟩;.trivial
  .exact hm.fO i o x k h2 hx hb
 .obtain⟨e1,e2⟩:=hm.same k hb hx;refine⟨e1,?_⟩;rw[ab k λq=>?_];.exact e2
  .subst q;rcases hm.fO id _ _ k cD dd rfl with h|h;all_goals grind
 .rw[ab k λq=>?_];.exact hm.lim k hb
  grind
 .have ao:=r.mono hle aa;cases v with
  |j9 i s off n=>
   simp only[vJ];split
   .rename_i hc;obtain⟨rfl,hs,hlen,hp⟩:=hc;obtain⟨b',af,rfl⟩:=r;rw[dd]at af;cases af;have hu:=X1 (s:=s) (off:=off) (n:=n) hlen;have ag:(CC cells s off n).length=n:=by simp[CC]
    have key:cy w (xQ L b cells.length) (.sl .ro (CC cells s off n)) (.slice (some ⟨b,off,none⟩) (CC cells s off n).length n):=by
     refine .of_flat hs hu (by grind[xQ]) om sm om λk v hk=>?_;have au:k<n*s:=by rw[<-ag,<-yD hu];grind
     have hi:k/s<n:=by simp_all[C4]
     have hj:k%s<s:=Ci _ hs;have aq:k=k/s*s+k%s:=by grind[Cw]
     rw[aq,yV _ _ hu hj]at hk;simp only[CC,B1,Dr hi,Bi,An,Aw,ahP hj,C7,Ar]at hk;obtain⟨v0,ah,rfl⟩:=hk;have ai:off+k/s*s+k%s=off+k:=om;rw[ai]at ah;obtain⟨z,hz,rz⟩:=ae.get _ _ ah;rw[Am]at hz;refine⟨z,by simp only[World.cell?,hh];grind,(cU.pT rz ?_).mono hle⟩;rw[Aj]at hp;refine hp _ (Av.2 ⟨k,?_⟩);grind
    rw[ag]at key;simpa
   omega|_=>exact ao
inductive oE:List V->St->List V->St->Prop|refl(vs:List V)(U:St):oE vs U vs U|step(id s:Nat)(rows:List (List V)){vs gP:List V}{U U':St}(cD:U[id]?=some (.cj rows s))(hp:xB rows)(h:oE (vs.map (fr id rows)) (lk id rows U) gP U'):oE vs U gP U'|nil(id off s:Nat)(cells:List V){vs gP:List V}{U U':St}(hs:0<s)(cD:U[id]?=some (.box cells))(hc:cells[off]?=some (.sl .full []))(h:oE vs (U.set id (.box (cells.set off (.cL U.length s 0 0 0)))++[.cj [] s]) gP U'):oE vs U gP U'|box(id:Nat)(cells:List V){vs gP:List V}{U U':St}(cD:U[id]?=some (.box cells))(h:oE (vs.map (vJ id cells)) (U.set id .dead) gP U'):oE vs U gP U'|GN(i s:Nat){vs gP:List V}{U U':St}(hs:0<s)(hv:vs[i]?=some (.sl .full []))(h:oE (vs.set i (.cL U.length s 0 0 0)) (U++[.cj [] s]) gP U'):oE vs U gP U'
theorem oE.ok{vs gP:List V}{U':St}(h:oE vs U gP U'):∀{L:Nat->Nat}{I xs:ail},Mem c w L U I->bM (dj w L U I) vs xs->∃L' I',Mem c w L' U' I'/\Le w L w L'/\Ext U I U' I'/\bM (dj w L' U' I') gP xs:=by induction h with |refl vs U=>grind[Le.refl,Ext.refl]|step id s rows cD hp _ ih=>intro L I xs hm ha;obtain⟨h1,h2,h3,h4⟩:=Qi hm cD hp;obtain⟨L',I',h5,h6,h7,h8⟩:=ih h1 (bM.fF (f:=fr id rows) (λ_ _ q=>h4 _ _ q) ha);exact⟨L',I',h5,h2.trans h6,h3.trans h7,h8⟩|nil id off s cells hs cD hc _ ih=>intro L I xs hm ha;obtain⟨x,h1,h2⟩:=Qj hm hs cD hc;obtain⟨L',I',h5,h6,h7,h8⟩:=ih h1 (ha.imp λ_ _ q=>q.mono (Le.refl _ _) h2);exact⟨L',I',h5,h6,h2.trans h7,h8⟩|box id cells cD _ ih=>intro L I xs hm ha;obtain⟨L1,h1,h2,h3,h4⟩:=X2 hm cD;obtain⟨L',I',h5,h6,h7,h8⟩:=ih h1 (bM.fF (f:=vJ id cells) (λ_ _ q=>h4 _ _ q) ha);exact⟨L',I',h5,h2.trans h6,h3.trans h7,h8⟩|GN i s hs hv _ ih=>
  rename_i ab ae s0 s1 _;intro L I xs hm ha;obtain⟨x,hx,r⟩:=ha.get _ _ hv;have hr:cy w L (.sl .full []) x:=r;obtain⟨ad,rfl⟩:∃ad,x=.slice ad 0 0:=by cases hr<;>grind
  have h1:=hm.mw (a:=ad) hs;have aa:=Ext.push _ _ hm.len (Ob.cj [] s) (.slice ad 0 0);have h2:bM (dj w L (s0++[Ob.cj [] s]) (I++[.slice ad 0 0])) (ab.set i (.cL s0.length s 0 0 0)) xs:=by
   refine bM.of (by rw[E2];exact ha.length) λj p y hp hy=>?_;rcases oR hp with⟨rfl,rfl,_⟩|⟨_,hp⟩;.rw[hx]at hy;cases hy;exact GJ (w':=w) (L':=L) (s:=s) (rows:=[]) (cap:=0) (a0:=ad) hm.len sm om
   .obtain⟨z,hz,rz⟩:=ha.get _ _ hp;rw[hy]at hz;cases hz;exact rz.mono (Le.refl _ _) aa
  obtain⟨L',I',h5,h6,h7,h8⟩:=ih h1 h2;exact⟨L',I',h5,h6,aa.trans h7,h8⟩
def flatK:V->Bool|.bool _|.int _ _|.str _|.fK|.u=>true|.raw _=>true|.sl _ rows=>rows.isEmpty|_=>false
def IU:V->Bool|.agg cs=>cs.all flatK|v=>flatK v
def GO:V->Bool|.cm vs=>vs.all IU|v=>IU v
section
variable{w w':World}{L L':Nat->Nat}{U U':St}{I I':ail}
variable {x:Value}
theorem Qk{v:V}(h:flatK v)(r:cU w L [] [] v x):cU w' L' U' I' v x:=by cases v with
 |sl g rows=>
  have hr:rows=[]:=by grind[flatK]
  subst hr;cases g with
  |app id=>obtain⟨_,n,s,h,_⟩:=r;grind|ro=>cases r with |jk _ a cap hg ha=>exact cy.jk _ _ _ hg ha|sl _ _ s b o cap c ha hs hlen fq db hg hc hr=>exact cy.jk _ _ _ om om
  |full=>cases r with |jk _ a cap hg ha=>exact cy.jk _ _ _ hg ha|sl _ _ s b o cap c ha hs hlen fq db hg hc hr=>exact cy.jk _ _ _ hg om
 |bool b=>cases r;exact cy.bool _|int k n=>cases r;exact cy.int _ _|str s=>cases r;exact cy.str _|fK=>cases r;exact cy.fK|raw v=>cases r with|raw _ h=>exact cy.raw _ h
 |u=>exact r|_=>simp[flatK]at h
theorem Ql{v:V}(h:IU v)(r:dT w L [] [] v x):dT w' L' U' I' v x:=by cases v with
 |agg cs=>obtain⟨xs,hx,hc⟩:=r;refine⟨xs,hx,?_⟩;clear hx;simp only[IU]at h;induction cs generalizing xs with |nil=>cases xs<;>simpa|cons c cs ih=>cases xs with|nil=>simpa|cons y ys=>simp only[Aq,A8]at h;exact⟨Qk h.1 hc.1,ih h.2 _ hc.2⟩
 |cm vs=>simpa|fn f c=>trivial|gW t c=>trivial|_=>exact dT.dv (Qk (w:=w) (L:=L) h r)
theorem X3{v:V}(h:GO v)(r:dj w L [] [] v x):dj w' L' U' I' v x:=by cases v with
 |cm vs=>obtain⟨xs,hx,hc⟩:=r;refine⟨xs,hx,?_⟩;clear hx;simp only[GO]at h;induction vs generalizing xs with |nil=>cases xs<;>simpa|cons c cs ih=>cases xs with |nil=>simpa|cons y ys=>simp only[Aq,A8]at h;exact⟨Ql h.1 hc.1,ih h.2 _ hc.2⟩
 |u=>trivial|_=>exact dj.lD (Ql (w:=w) (L:=L) h r)
end
theorem VC.view{P:Program}{c:Ctx}{f:FuncId}{bY args cc af:List V}{Uc U1:St}{R:V->St->Prop}{K:V->St->Prop}(hc:bL P f cc [] R)(hb:wQ P f)(hf:oE (args++bY) Uc af U1)(aa:bM (cR (cO [] U1.length)) cc af)(hR:∀r s,R r s->s=[]/\GO r)(hk:∀r,R r []->K r Uc):VC P c (.fn f bY) args Uc K:=by
 refine⟨f,bY,rfl,.inl ⟨IS hb,λw L Ic ab hm hv=>?_⟩⟩;obtain⟨L1,I1,ai,a1,ar,aj⟩:=hf.ok hm hv;have ak:sS (cO [] U1.length) [] [] U1 I1:=by
  have ao:∀id,U1.length<=cO [] U1.length id:=λid=>by simp[cO]
  refine⟨λid x hx=>?_,λid n s hx=>?_,λid rows s hx=>?_,λid hx=>?_⟩;.have h1:=(A5.1 hx).1;have h2:=ao id;rw[ai.len]at h1;omega
  all_goals have h1:=(A5.1 hx).1;have h2:=ao id;omega
 have au:Mem (entry w L1 [] []) w L1 [] []:=⟨rfl,λi o x ho _=>by simp at ho,λi j o o' x x' b _ ho _ _ _ _=>by simp at ho,λi o x b ho _ _=>by simp at ho,λb _ _=>⟨rfl,rfl⟩,Le.refl _ _,A6 _,rfl,rfl,rfl,A6 _,ai.lim,Ext.refl _ _,ai.jl.mono ai.le⟩;have av:bM (dj w L1 [] []) cc ab:=by clear hf hc hk;induction cc generalizing af ab with
  |nil=>cases af with
   |nil=>cases ab with|nil=>trivial|cons _ _=>exact aj.elim
   |cons _ _=>exact aa.elim
  |cons p cc ih=>cases af with |nil=>exact aa.elim|cons q az=>cases ab with|nil=>exact aj.elim|cons y ys=>
     refine⟨zf ak aa.1 aj.1,?_⟩;clear ih;have key:∀(cc az:List V)(ys:ail),bM (cR (cO [] U1.length)) cc az->bM (dj w L1 U1 I1) az ys->bM (dj w L1 [] []) cc ys:=by intro cc;induction cc with
      |nil=>intro az ys h1 h2;cases az with
       |nil=>cases ys with |nil=>trivial|cons _ _=>exact h2.elim
       |cons _ _=>exact h1.elim
      |cons p l ih=>intro az ys h1 h2;cases az with |nil=>exact h1.elim|cons q az=>cases ys with |nil=>exact h2.elim|cons y ys=>exact⟨zf ak h1.1 h2.1,ih az ys h1.2 h2.2⟩
     exact key _ _ _ aa.2 aj.2
 refine(hc w L1 [] ab au av).mono λe w' ⟨v,r,L2,U',I',he,aq,a6,ad,aw⟩=>?_;obtain⟨rfl,al⟩:=hR r U' aq;have ax:I'=[]:=B4 (by rw[ad.len];rfl);subst ax;have ae:∀b,b<w.heap.size->w'.heap[b]?=w.heap[b]?:=λb hb=>(ad.same b hb (by show b∉uz [] [];simp[uz])).1;have ay:w.heap.size<=w'.heap.size:=ad.size;let L3:Nat->Nat:=λb=>if b<w.heap.size then L b else L2 b;have an:∀b,b<w.heap.size->L3 b=L b:=λb hb=>ahP hb;have ag:Le w L w' L3:=by
  refine⟨λb=>?_,λb o ho=>?_⟩
  .by_cases hb:b<w.heap.size;.rw[an b hb];exact A6 _
   .rw[hm.lim b om];exact A3 _
  .have hb:b<w.heap.size:=by
    rcases Ck b w.heap.size with hb|hb;.exact hb
    .rw[hm.lim b hb]at ho;omega
   exact BQ (ae b hb) o
 refine⟨v,r,L3,Uc,Ic,he,hk r aq,?_,ag,Ext.refl _ _,X3 al aw⟩;refine⟨hm.len,λi o x ho hx=>(hm.cW i o x ho hx).step ag (Ext.refl _ _) λb hb=>?_,hm.apart,hm.fO,λb hb hx=>?_,hm.le.trans ag,Ao hm.size ay,ad.os.trans hm.os,ad.tape.trans hm.tape,ad.output.trans hm.output,Ao hm.drawn ad.drawn,λb hb=>?_,hm.ext,hm.jl⟩;.have ah:=(hm.cW i o x ho hx).eH hb;exact⟨ae b ah,an b ah⟩
 .have ah:=Dh hb hm.size;rw[ae b ah,an b ah];exact hm.same b hb hx
 .show(if b<w.heap.size then L b else L2 b)=0;rw[ahO om];exact ad.lim b hb
def bZ(P:Program)(e:Env)(U:St):Op->R |.move x=>.ok (zI e x)|.assign x=>.ok (zI e x)|.pick x y z=>yj (zI e x) (zI e y) (zI e z)|.alloc t=>rR P t U|.box _ x=>vC U (zI e x)|.build t ps=>yt (gK P t) (ff P t) (ps.toList.map λp=>(p.1,zI e p.2))|.buildSlice t n ps=>uw ((ec P t).map (·.1)) n (ps.toList.map λp=>(p.1,zI e p.2))|.load t x=>nx P t U (zI e x)|.store t x y=>vz P t U (zI e x) (zI e y)|.nilCheck x=>yl (zI e x)|.binOp op t x y _=>if pV y=true then vy op (ka P t) (zI e x)else if rT y=true then zb op (nz P t) (zI e x)else oA op (ka P t) (nv P t) (zI e x) (zI e y)|.unOp op _ x=>nw op (zI e x)|.convert t t' x=>vF (jI P t) (jI P t') (zI e x)|.slice t x lo hi none=>sQ (iD P t) (du P t) ((ec P t).map (·.1)) (zI e x) (lo.map (zI e)) (hi.map (zI e))|.slice t x (some lo) (some hi) (some mx)=>yw ((ec P t).map (·.1)) (zI e x) (zI e lo) (zI e hi) (zI e mx)|.fieldAddr t x f=>yn P t (zI e x) f|.field t x f=>yy (cI P t f) (zI e x)|.indexAddr t x i=>vD (eQ P t) (iD P t) (zI e x) (zI e i)|.index t x i=>vE (zI e x) (zI e i) (qo P t) (iD P t)|.extract x i=>ym (zI e x) i|.makeFunc fn first bY=>yz fn first.size (bY.toList.map (zI e))|.makeSlice t l m=>vG (ec P t) (iP P t) U (zI e l) (zI e m)|.call ⟨.builtin .len,⟨[x]⟩,⟨[t]⟩⟩=>yp (du P t) (zI e x)|.call ⟨.builtin .append,⟨[x,y]⟩,⟨[t,t']⟩⟩=>sN (ec P t) (du P t') U (zI e x) (zI e y)|.call ⟨.builtin .clear,⟨[x]⟩,⟨[t]⟩⟩=>vI ((ec P t).map (·.1)) (iP P t) U (zI e x)|.call ⟨.builtin .min,⟨xs⟩,_⟩=>qp false (xs.map (zI e))|.call ⟨.builtin .max,⟨xs⟩,_⟩=>qp true (xs.map (zI e))|.call ⟨.builtin .delete,⟨[x,k]⟩,⟨[t,_]⟩⟩=>za (gq P t) U (zI e x) (zI e k)|.makeMap t r=>y8 U (nz P t) (r.map (zI e))|.lookup t x k ok=>wI (gq P t) U (zI e x) (zI e k) ok|.mapUpdate t x k v=>wG (gq P t) U (zI e x) (zI e k) (zI e v)|.insert t x k v=>wG (gq P t) U (zI e x) (zI e k) (zI e v)|.mapEntry t x k=>wN (gq P t) U (zI e x) (zI e k)|.entryStore _ x s v=>wB U (zI e x) (zI e s) (zI e v)|.range t x=>zc (nz P t) U (zI e x)|.entry x=>qx U (zI e x)|.makeInterface t x=>ze (ER P t) t (zI e x)|.next x false=>nA false U (zI e x)|_=>.fail
def gX(P:Program)(e:Env)(U:St):Op->R |.buildSlice t n ps=>uy ((ec P t).map (·.1)) n U (ps.toList.map λp=>(p.1,zI e p.2))|.makeSlice t l m=>vH (ec P t) (iP P t) U (zI e l) (zI e m)|.convert t t' x=>y4 (jI P t) (jI P t') U (zI e x)|.slice t x (some lo) none none=>yu (du P t) ((ec P t).map (·.1)) U (zI e x) (zI e lo)|.call ⟨.builtin .append,⟨[x,y]⟩,⟨[t,t']⟩⟩=>sO (ec P t) (du P t') U (zI e x) (zI e y)|.next x false=>nA true U (zI e x)|op=>bZ P e U op
def l7(e:Env)(d:Option Tmp):Bool:=match d with|some t=>(match e (100000+t)with|.cm []=>true|_=>false)|none=>false
def xP(P:Program)(d:Option Tmp)(e:Env)(U:St)(op:Op):R:=if l7 e d=true then gX P e U op else bZ P e U op
section
variable{P:Program}{c:Ctx}{nt:Nat}{e:Env}{U:St}{a:Act}{w:World}{L:Nat->Nat}{I:ail}
theorem Qm(o:Oper)(h:dM c nt e U a w L I):fD (bZ P e U o.op) U (bS P c o a w L U I):=by
 obtain⟨dst,op,ty,pos,dU,g⟩:=o;show fD (bZ P e U op) U _;unfold bZ;split;.grind[WU]
 .grind[WV]
 .grind[WT]
 .grind[Xd]
 .grind[Xc]
 .grind[Xm]
 .grind[Xl]
 .grind[Xa]
 .grind[Xb]
 .grind[WW]
 .grind[W3,XO,W1]
 .grind[W4]
 .grind[Xu]
 .grind[Xp]
 .grind[Xr]
 .grind[W6]
 .grind[Xv]
 .grind[Xe]
 .grind[Xg]
 .grind[W5]
 .grind[Xx]
 .grind[Xy]
 .grind[Xh]
 .grind[Xi]
 .grind[XB]
 .grind[PH]
 .grind[PH]
 .grind[XN]
 .grind[XI]
 .grind[XJ]
 .grind[XK]
 .grind[XL]
 .grind[XS]
 .grind[XT]
 .grind[XP]
 .grind[XU]
 .grind[XV]
 .grind[Qf]
 .trivial
theorem X4(o:Oper)(h:dM c nt e U a w L I):fD (xP P o.dst e U o.op) U (bS P c o a w L U I):=by
 unfold xP;split
 .obtain⟨dst,op,ty,pos,dU,g⟩:=o;show fD (gX P e U op) U _;unfold gX;split;.grind[XC]
  .grind[Xz]
  .grind[XD]
  .grind[Xq]
  .grind[Xj]
  .grind[Qf]
  .exact Qm ⟨dst,op,ty,pos,dU,g⟩ h
 grind[Qm]
def eV(nt:Nat)(d:Option Tmp)(v:V)(K:Env->St->Prop)(e:Env)(U:St):Prop:=match d with |some t=>t<nt/\K (fe e t v) U|none=>K e U
def IV (p q:Prop):Prop:=p/\q
def mA(nt:Nat)(d:Option Tmp)(r:R)(K:Env->St->Prop)(e:Env)(U:St):Prop:=match r with |.fail=>False|.ok v=>eV nt d v K e U|.eF p v=>IV p (eV nt d v K e U)|.st v U'=>eV nt d v K e U'|.dp p v U'=>IV p (eV nt d v K e U')|.all f=>∀b,eV nt d (f b) K e U|.any l=>∀p∈l,eV nt d p.1 K e p.2
def jg(P:Program)(c:Ctx)(nt:Nat)(d:Option Tmp)(op:Op)(K:Env->St->Prop)(e:Env)(U:St):Prop:=match op with |.call ⟨.value f,args,_⟩=>VC P c (zI e f) (args.toList.map (zI e)) U (λv U'=>eV nt d v K e U')|op=>mA nt d (xP P d e U op) K e U
def kT(x:V)(want:Bool)(A B:Prop):Prop:=match x with|.bool b=>(b=want->A)/\(b≠want->B)|.cm []=>B|_=>False
def kf(ops:List Oper)(j:Nat):Option Tmp:=(ops[j]?).bind (·.dst)
def uB(g:Option (Nat×Bool))(ops:List Oper)(e:Env)(A B:Prop):Prop:=match g with |none=>A|some (j,want)=>(match kf ops j with|some t=>kT (e t) want A B|none=>False)
def kg(P:Program)(c:Ctx)(nt:Nat)(ops:List Oper):List Oper->(Env->St->Prop)->Env->St->Prop |[],K,e,U=>K e U|o::rest,K,e,U=>uB o.guard ops e (jg P c nt o.dst o.op (kg P c nt ops rest K) e U) (eV nt o.dst (.cm []) (kg P c nt ops rest K) e U)
theorem dM.put(h:dM c nt e U a w L I){w':World}{L':Nat->Nat}{U':St}{I':ail}{v:V}{x:Value}(hm:Mem c w' L' U' I')(hle:Le w L w' L')(aa:Ext U I U' I')(r:dj w' L' U' I' v x)(d:Option Tmp)(hd:∀t,d=some t->t<nt):dM c nt (match d with|some t=>fe e t v|none=>e) U' (a.put d x) w' L' I':=by cases d with |none=>exact⟨hm,h.size,h.defs,λt=>(h.env t).mono hle aa⟩|some d=>
  refine⟨hm,by simp[Act.put,h.size],by simp[Act.put,h.defs],λt=>?_⟩;have ab:=hd d rfl;simp only[fe,Act.put];by_cases ht:t=d
  .subst ht;rw[ahP rfl];have:(a.tmps.setIfInBounds t x).getD t undef=x:=by simp[Array.getD,h.size,ab]
   grind
  .rw[ahO ht];have:(a.tmps.setIfInBounds d x).getD t undef=a.tmps.getD t undef:=by have ad:¬d=t:=(by grind);simp_all
   rw[this];exact(h.env t).mono hle aa
def fo(c:Ctx)(nt:Nat)(Q:Exit->Env->St->Prop):Exit->Act->World->Prop|.panic _,_,_|.outgrown,_,_|.goto _,_,_=>False|x,a,w=>∃e U L I,dM c nt e U a w L I/\Q x e U
def VW(P:Program)(c:Ctx)(nt:Nat)(code:Code)(Q:Exit->Env->St->Prop)(e:Env)(U:St):Prop:=∀a w L I,dM c nt e U a w L I->code.wp P (fo c nt Q) a w
theorem EV(h:dM c nt e U a w L I){w':World}{L':Nat->Nat}{U':St}{I':ail}{v:V}{x:Value}(hm:Mem c w' L' U' I')(hle:Le w L w' L')(aa:Ext U I U' I')(r:dj w' L' U' I' v x){d:Option Tmp}{K:Env->St->Prop}(hK:eV nt d v K e U'):∃e',dM c nt e' U' (a.put d x) w' L' I'/\K e' U':=by cases d with |none=>exact⟨e,h.put hm hle aa r none sm,hK⟩|some t=>exact⟨fe e t v,h.put hm hle aa r (some t) (λt' q=>by cases q;exact hK.1),hK.2⟩
theorem IW(o:Oper){K:Env->St->Prop}{next:Act->World->Prop}{Q:Exit->Act->World->Prop}(h:dM c nt e U a w L I)(hK:jg P c nt o.dst o.op K e U)(hn:∀e' U' a' w' L' I',dM c nt e' U' a' w' L' I'->K e' U'->next a' w'):o.wp P a w next Q:=by
 have fin:∀{r:R},fD r U (bS P c o a w L U I)->mA nt o.dst r K e U->o.wp P a w next Q:=by
  intro r hr hv;have done:∀{v U'},bS P c o a w L U I v U'->eV nt o.dst v K e U'->o.wp P a w next Q:=by
   rintro v U' ⟨x,w',L',I',mB,hm,hle,sY,CD⟩hp;obtain⟨e',hs,hk⟩:=EV h hm hle sY CD hp;unfold Oper.wp;rcases mB with mB|⟨mB,rfl⟩;.rw[mB];exact hn _ _ _ _ _ _ hs hk
   .rw[mB];exact hn _ _ _ _ _ _ hs hk
  cases r with |fail=>exact hv.elim|ok v=>exact done hr hv|eF p v=>exact done (hr hv.1) hv.2|st v U'=>exact done hr hv|dp p v U'=>exact done (hr hv.1) hv.2|all f=>obtain⟨b,hr⟩:=hr;exact done hr (hv b)|any l=>obtain⟨p,hp,hr⟩:=hr;exact done hr (hv p hp)
 unfold jg at hK;split at hK
 .rename_i f args ts IX;obtain⟨Qn,bY,hf,hK⟩:=hK;have Qo:=h.eval f;rw[hf]at Qo;obtain⟨xs,hx,GP⟩:=Qo;have zg:bM (dj w L U I) (args.toList.map (zI e)++bY) (args.toList.map a.eval++xs):=by
   refine bM.append ?_ (GP.imp λp q r=>?_);.generalize args.toList=l;induction l with|nil=>trivial|cons p l ih=>exact⟨h.eval p,ih⟩
   .exact dj.dv (by cases p<;>first|exact r|exact r.elim)
  rcases hK with⟨⟨fn,LK,sZ,s7⟩,nB⟩|nB
  .have mB:(execOp a.eval o).run P w=.ok (.enter Qn (args.toList.map a.eval++xs).toArray) w:=by
    obtain⟨dst,op,ty,pos,dU,g⟩:=o;simp only at IX;subst IX;have LL:¬fn.body=none:=by intro q;simp[q]at s7
    have GQ:¬fn.name="runtime.NumGoroutine":=sU sZ;have GR:(Array.map a.eval args++xs.toArray)=(args.toList.map a.eval++xs).toArray:=by apply Array.ext';simp
    simp[execOp,resolve,hx,Deferred.ofValue,invoke,callFunc,LK,GQ,LL,GR]
   unfold Oper.wp;rw[mB];show Calls P Qn _ w _;refine(nB w L I _ h.mem zg).mono ?_;rintro en w' ⟨v,r,L',U',I',rfl,hp,hm,hle,sY,CD⟩;obtain⟨e',hs,hk⟩:=EV h hm hle sY CD hp;exact hn _ _ _ _ _ _ hs hk
  .obtain⟨v,r,w',L',U',I',X5,hp,hm,hle,sY,CD⟩:=nB w L I _ h.mem zg;have mB:(execOp a.eval o).run P w=.ok (.value v) w':=by
    obtain⟨dst,op,ty,pos,dU,g⟩:=o;simp only at IX;subst IX;have GR:(Array.map a.eval args++xs.toArray)=(args.toList.map a.eval++xs).toArray:=by apply Array.ext';simp
    simp[execOp,resolve,hx,Deferred.ofValue,invoke,GR,X5]
   obtain⟨e',hs,hk⟩:=EV h hm hle sY CD hp;unfold Oper.wp;rw[mB];exact hn _ _ _ _ _ _ hs hk
 .exact fin (X4 o h) hK
theorem Qp{ops:List Oper}{j:Nat}{t:Tmp}(ht:kf ops j=some t)(hv:dj w L U I (.cm []) (a.tmps.getD t undef)):yielded ops.toArray a.tmps j=none:=by
 obtain⟨xs,hx,ab⟩:=hv;have ad:xs=[]:=by cases xs with |nil=>rfl|cons x xs=>exact ab.elim
 subst ad;unfold yielded;unfold kf at ht;have ae:(ops.toArray[j]?).bind (·.dst)=some t:=sU ht;rw[ae];simp only[An];by_cases aa:t<a.tmps.size;.rw[Az aa];simp[Array.getD,aa]at hx;rw[hx]
 .rw[Array.getElem?_eq_none (Nat.le_of_not_lt aa)]
theorem LM{ops:List Oper}{Q:Exit->Act->World->Prop}:∀(l:List Oper)(K:Env->St->Prop)(e:Env)(U:St)(a:Act)(w:World)(L:Nat->Nat)(I:ail),dM c nt e U a w L I->kg P c nt ops l K e U->(∀e' U' a' w' L' I',dM c nt e' U' a' w' L' I'->K e' U'->Q .normal a' w')->wpList P ops.toArray Q l a w
 |[],K,e,U,a,w,L,I,h,hK,hn=>hn _ _ _ _ _ _ h hK|o::rest,K,e,U,a,w,L,I,h,hK,hn=>by
  have ih:=LM (ops:=ops) (Q:=Q) rest K;have yes:jg P c nt o.dst o.op (kg P c nt ops rest K) e U->o.wp P a w (wpList P ops.toArray Q rest) Q\/(o.asks P a w/\LetsOut Q):=λhv=>.inl (IW o h hv λe' U' a' w' L' I' hs hk=>ih e' U' a' w' L' I' hs hk hn);have no:eV nt o.dst (.cm []) (kg P c nt ops rest K) e U->wpList P ops.toArray Q rest (a.put o.dst undef) w:=λhv=>by obtain⟨e',hs,hk⟩:=EV h h.mem (Le.refl _ _) (Ext.refl _ _) (show dj w L U I (.cm []) undef from⟨[],rfl,tV⟩) hv;exact ih e' U _ _ _ _ hs hk hn
  unfold kg at hK;unfold wpList;unfold uB at hK;split at hK;.rename_i hg;rw[ahP (by simp[Region.wanted,hg])];exact yes hK
  .rename_i j want hg;split at hK
   .rename_i t ht;have hv:=h.env t;unfold kT at hK;split at hK
    .rename_i b hb;rw[hb]at hv;have hv:=pU hv;have hy:yielded ops.toArray a.tmps j=some b:=by
      unfold yielded;unfold kf at ht;have ad:(ops.toArray[j]?).bind (·.dst)=some t:=sU ht;rw[ad];simp only[An];have ab:t<a.tmps.size:=by
       rcases Ck t a.tmps.size with q|q;.exact q
       .simp[Array.getD,Nat.not_lt.2 q,undef]at hv
      rw[Az ab];simp[Array.getD,ab]at hv;rw[hv]
     by_cases aa:b=want;.rw[ahP (by simp[Region.wanted,hg,hy,aa])];exact yes (hK.1 aa)
     .rw[ahO (by simp[Region.wanted,hg,hy,aa])];exact no (hK.2 aa)
    .rename_i hb;rw[hb]at hv;rw[ahO (by simp[Region.wanted,hg,Qp ht hv])];exact no hK
    .exact hK.elim
   .exact hK.elim
def GS(x:V)(A B:Prop):Prop:=match x with|.bool b=>(b=true->A)/\(b=false->B)|_=>False
def LN(K:Env->St->Prop)(Q:Exit->Env->St->Prop):Exit->Env->St->Prop|.normal,e,U=>K e U|x,e,U=>Q x e U
def CE(id:Nat)(Q:Exit->Env->St->Prop):Exit->Env->St->Prop |.exit s8,e,U=>if s8=id then Q .normal e U else Q (.exit s8) e U|x,e,U=>Q x e U
def qC(P:Program)(c:Ctx)(nt:Nat):Code->(Exit->Env->St->Prop)->Env->St->Prop |.skip,Q,e,U=>Q .normal e U|.seq x y,Q,e,U=>qC P c nt x (LN (qC P c nt y Q) Q) e U|.cond x t f,Q,e,U=>GS (zI e x) (qC P c nt t Q e U) (qC P c nt f Q e U)|.block id b,Q,e,U=>qC P c nt b (CE id Q) e U|.exit id,Q,e,U=>Q (.exit id) e U|.ret,Q,e,U=>Q .ret e U|.label _,Q,e,U=>Q .normal e U|.region id ops draw,Q,e,U=>if draw then VW P c nt (.region id ops true) Q e U else kg P c nt ops.toList ops.toList (Q .normal) e U|.loop b,Q,e,U=>VW P c nt (.loop b) Q e U|_,_,_,_=>False
theorem rV:∀(code:Code)(Q:Exit->Env->St->Prop)(e:Env)(U:St),qC P c nt code Q e U->VW P c nt code Q e U
 |.skip,Q,e,U,h=>λa w L I hs=>wp_skip ⟨e,U,L,I,hs,h⟩|.seq x y,Q,e,U,h=>λa w L I hs=>by refine wp_seq (wp_mono (rV x _ e U h a w L I hs) λex a' w' q=>?_);cases ex with |normal=>obtain⟨e',U',L',I',aa,hq⟩:=q;exact rV y Q e' U' hq a' w' L' I' aa|exit id=>exact q|goto l=>exact q|ret=>exact q|panic ch=>exact q|outgrown=>exact q
 |.cond x t f,Q,e,U,h=>λa w L I hs=>by
  unfold qC GS at h;split at h;.rename_i b hb;have hv:=hs.eval x;rw[hb]at hv;exact wp_cond_split (pU hv) (λad=>rV t Q e U (h.1 ad) a w L I hs) (λae=>rV f Q e U (h.2 ae) a w L I hs)
  .exact h.elim|.block id b,Q,e,U,h=>λa w L I hs=>by refine wp_block (wp_mono (rV b _ e U h a w L I hs) λex a' w' q=>?_);cases ex with
  |exit ab=>
   obtain⟨e',U',L',I',aa,hq⟩:=q;change(if ab=id then Q .normal e' U' else Q (.exit ab) e' U')at hq;change(if ab=id then fo c nt Q .normal a' w' else fo c nt Q (.exit ab) a' w');split;.rename_i hid;rw[ahP hid]at hq;exact⟨e',U',L',I',aa,hq⟩
   .rename_i hid;rw[ahO hid]at hq;exact⟨e',U',L',I',aa,hq⟩|normal=>exact q|goto l=>exact q|ret=>exact q|panic ch=>exact q|outgrown=>exact q
 |.exit id,Q,e,U,h=>λa w L I hs=>wp_exit ⟨e,U,L,I,hs,h⟩|.ret,Q,e,U,h=>λa w L I hs=>wp_ret ⟨e,U,L,I,hs,h⟩|.label _,Q,e,U,h=>λa w L I hs=>wp_label ⟨e,U,L,I,hs,h⟩|.region id ops draw,Q,e,U,h=>λa w L I hs=>by unfold qC at h;cases draw with|true=>exact h a w L I hs|false=>refine wp_region_list (ops:=ops) ?_;have:=LM (P:=P) (ops:=ops.toList) (Q:=fo c nt Q) ops.toList (Q .normal) e U a w L I hs (sU h) λe' U' a' w' L' I' aa hk=>⟨e',U',L',I',aa,hk⟩;simpa using this
 |.loop b,Q,e,U,h=>h|.rangeFunc _ _ _ _,_,_,_,h=>h.elim|.scope _,_,_,_,h=>h.elim|.goto _,_,_,_,h=>h.elim|.refuse _,_,_,_,h=>h.elim
end
end Go.Vx
