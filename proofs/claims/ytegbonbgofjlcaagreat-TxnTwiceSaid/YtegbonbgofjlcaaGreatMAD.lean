/-
  Walks with cuts: a statement's end held by the slots that are read later, what follows proved once.
  No condition: a library text; nothing of the program is named.
-/
import Derived.Test.YtegbonbgofjlcaaGreatMAC
import Derived.Orders
set_option maxHeartbeats 8000000
namespace Go.Vx
open Go
section
variable{P:Program}{c:Ctx}{nt:Nat}{e:Env}{I:St}{a:Act}{w:World}{L:Nat->Nat}{J:alY}
variable {fn:Func}{code:Code}
def kJ:Nat->List V->Env|_,[]=>iI|i,v::vs=>ft (kJ (i+1) vs) i v
theorem N3:∀(vs:List V)(i t:Nat),kJ i vs (i+t)=vs.getD t .u
 |[],_,_=>by rfl|v::vs,i,0=>by simp[kJ,ft]|v::vs,i,t+1=>by simp only[kJ,ft];rw[alp om];have:=N3 vs (i+1) t;grind
def Gt(P:Program)(e:Env)(I:St):ResultVar->Option V |.tmp t=>some (e t)|.cell t T=>(match nW P T I (e t)with|.ok v=>some v|_=>none)
def Ez(P:Program)(e:Env)(I:St):List ResultVar->Option (List V) |[]=>some []|r::rs=>(match Gt P e I r,Ez P e I rs with|some v,some vs=>if nU v=true then some (v::vs)else none|_,_=>none)
def mS(P:Program)(rs:List ResultVar)(e:Env)(I:St):Option V:=match rs with |[r]=>Gt P e I r|rs=>(Ez P e I rs).map .cC
def uh(a:Act):ResultVar->Sem Value |.tmp t=>pure (a.tmps.getD t undef)|.cell t T=>do loadVar T (<-asAddr (a.tmps.getD t undef))
theorem xl8(fn:Func)(a:Act):results fn a.tmps=(do let vs<-fn.results.mapM (uh a);pure (if h:vs.size=1then vs[0]else .tuple vs)):=by rfl
theorem SL(h:ez c nt e I a w L J){r:ResultVar}{v:V}(hv:Gt P e I r=some v):∃x,(uh a r).run P w=.ok x w/\dP w L I J v x:=by cases r with |tmp t=>simp only[Gt,alu]at hv;subst hv;exact⟨_,rfl,h.env t⟩|cell t T=>
  simp only[Gt]at hv;split at hv;.rename_i v' hl;simp only[alu]at hv;subst hv;obtain⟨bl,off,z,hy,hz,r⟩:=R5 (P:=P) T h.mem (h.env t) hl;grind[uh,asAddr]
  grind
theorem SM(h:ez c nt e I a w L J):∀(rs:List ResultVar)(vs:List V),Ez P e I rs=some vs->∃xs:alY,(rs.mapM (uh a)).run P w=.ok xs w/\bP (eI w L I J) vs xs/\xs.length=rs.length
 |[],vs,hv=>by simp only[Ez,alu]at hv;subst hv;exact⟨[],rfl,tV,rfl⟩|r::rs,vs,hv=>by
  simp only[Ez]at hv;split at hv
  .rename_i v iA h1 h2;split at hv;.rename_i hh;simp only[alu]at hv;subst hv;obtain⟨x,hx,hr⟩:=SL (P:=P) h h1;obtain⟨xs,aa,ab,hl⟩:=SM h rs iA h2;refine⟨x::xs,?_,⟨Gm hr hh,ab⟩,by simp[hl]⟩;rw[List.mapM_cons];simp only[Sem.run_bind,hx,Result.andThen_ok,aa,Sem.run_pure]
   .cases hv
  .cases hv
theorem wn4(h:ez c nt e I a w L J){v:V}(hv:mS P fn.results.toList e I=some v):∃x,(results fn a.tmps).run P w=.ok x w/\dP w L I J v x:=by
 have ab:∀xs:alY,(fn.results.toList.mapM (uh a)).run P w=.ok xs w->(results fn a.tmps).run P w=.ok (if hs:xs.toArray.size=1then xs.toArray[0]else .tuple xs.toArray) w:=by grind[xl8,Array.mapM_eq_mapM_toList,Sem.run_bind,Sem.run_map,Result.andThen_ok,Sem.run_pure]
 unfold mS at hv;split at hv;.rename_i r hr;obtain⟨x,hx,ad⟩:=SL (P:=P) h hv;simp_all
 .rename_i rs ae;cases ha:Ez P e I fn.results.toList with |none=>grind|some vs=>
   rw[ha]at hv;simp only[Bf,alu]at hv;subst hv;obtain⟨xs,af,aa,hl⟩:=SM (P:=P) h _ _ ha;refine⟨.tuple xs.toArray,?_,xs,rfl,aa⟩;have hn:¬xs.toArray.size=1:=by intro q;simp only[List.size_toArray]at q;rw[hl]at q;obtain⟨r,hr⟩:=List.length_eq_one_iff.1 q;grind
   grind
def rI(n0:Nat)(R:V->St->Prop)(v:V)(I:St):Prop:=∃v1 I1 pick I' r,pf [v] I [v1] I1/\gT n0 pick I1 I'/\cW (cO pick I1.length) r v1/\R r I'
def mT(P:Program)(rs:List ResultVar)(n0:Nat)(R:V->St->Prop):Exit->Env->St->Prop|.normal,e,I|.ret,e,I=>∃v,mS P rs e I=some v/\rI n0 R v I|_,_,_=>False
theorem bN.pM{f:FuncId}{nt:Nat}{rs:List ResultVar}{args:List V}{I:St}{R:V->St->Prop}(n0:Nat)(hf:P.funcs[f]?=some fn)(af:fn.ntmps=nt)(ad:fn.results=rs.toArray)(hb:fn.body=some code)(h0:I.length=n0)(an:args.length<=nt)(h:∀c:Ctx,c.cD.length=n0->c.β0.length=c.cD.length->VW P c nt code (mT P rs n0 R) (kJ 0 args) I):bN P f args I R:=by
 subst af;subst h0;have ad:fn.results.toList=rs:=by rw[ad]
 subst ad;intro w L J aa hm ha;have hlen:=ha.length;refine calls_of_wp hf hb ?_;have ae:ez (entry w L I J) fn.ntmps (kJ 0 args) I {tmps:=aa.toArray++Array.replicate (fn.ntmps-aa.toArray.size) undef,defers:=[]} w L J:=by
  refine⟨hm,by grind,rfl,λt=>?_⟩;have e1:=N3 args 0 t;rw[Ae]at e1;rw[e1];by_cases ht:t<args.length
  .obtain⟨x,hx,r⟩:=ha.get t _ (A0 ht);have:(aa.toArray++Array.replicate (fn.ntmps-aa.toArray.size) undef).getD t undef=x:=by rw[Array.getD_eq_getD_getElem?,Dr (by grind)];grind
   grind
  .rw[Aj,Do om];trivial
 refine wp_mono (h (entry w L I J) rfl hm.len _ w L J ae) λx a' w' q=>?_;have fin:∀{x:Exit},(x=.normal\/x=.ret)->fY (entry w L I J) fn.ntmps (mT P fn.results.toList I.length R) x a' w'->a'.defers=[]/\∃v,(results fn a'.tmps).run P w'=.ok v w'/\∃v' r L' I' J',Ending.returned v=Ending.returned v'/\R r I'/\I.length<=I'.length/\Mem (entry w L I J) w' L' I' J'/\dP w' L' I' J' r v':=by
  intro x hx q;have hq:∃e' I' L' J',ez (entry w L I J) fn.ntmps e' I' a' w' L' J'/\∃v,mS P fn.results.toList e' I'=some v/\rI I.length R v I':=by rcases hx with rfl|rfl<;>exact q
  obtain⟨e',cD,ao,J1,hs,v,hv,v1,I1,pick,I',r,ah,hp,ai,hR⟩:=hq;obtain⟨x,hx,al⟩:=wn4 (P:=P) hs hv;obtain⟨L',J2,ab,_,_,aj,_⟩:=ah.ok hs.mem (xs:=[x]) (by trivial);refine⟨hs.defs,x,hx,x,r,L',I',_,rfl,hR,?_,ab.pick hp hm.len,BP (hp.jK ab.len) ai aj⟩;rw[hp.len];rcases C3 pick.length I.length with ak|aq;.have:=(A3.1 (hp.id pick.length ak)).1;omega
  omega
 cases x with |normal=>exact fin (.inl rfl) q|ret=>exact fin (.inr rfl) q|exit id=>obtain⟨e',I',L',J',hs,hq⟩:=q;simpa|goto l=>simpa|panic ch=>trivial|outgrown=>trivial
theorem bN.intro{f:FuncId}{nt:Nat}{rs:List ResultVar}{args:List V}{I:St}{R:V->St->Prop}(n0:Nat)(hf:P.funcs[f]?=some fn)(aa:fn.ntmps=nt)(ab:fn.results=rs.toArray)(hb:fn.body=some code)(h0:I.length=n0)(ad:args.length<=nt)(h:∀c:Ctx,c.cD.length=n0->c.β0.length=c.cD.length->rH P c nt code (mT P rs n0 R) (kJ 0 args) I):bN P f args I R:=bN.pM n0 hf aa ab hb h0 ad (by grind[sZ])
theorem SN{Q:Exit->Act->World->Prop}(uU:Nat->Act->World->Prop)(n:Nat)(h₀:uU n a w)(round:∀n a w,uU n a w->code.wp P (Exit.then (λa' w'=>∃m,m<n/\uU m a' w') Q) a w):(Code.loop code).wp P Q a w:=by
 intro b k cs;have key:∀n a w,uU n a w->∃e a' w',Q e a' w'/\Arrives P (lone (b.at a (.code code::.inLoop code::k)) cs w) b k cs e a' w':=by intro n;induction n using Nat.strongRecOn with|_ n ih=>intro a w hI;obtain⟨e,a₁,rJ,hq,aa⟩:=round n a w hI b (.inLoop code::k) cs;cases e with |normal=>obtain⟨m,ad,ae⟩:=hq;obtain⟨N4,a₂,N5,af,ab⟩:=ih m ad a₁ rJ ae;exact⟨N4,a₂,N5,af,.of_steps (Steps.trans aa (.one step_inLoop)) ab⟩|exit id=>exact⟨_,a₁,rJ,hq,(by simpa)⟩|goto l=>exact⟨_,a₁,rJ,hq,(by simpa)⟩|ret=>exact⟨_,a₁,rJ,hq,(by simpa)⟩|panic ch=>exact⟨_,a₁,rJ,hq,(by simpa)⟩|outgrown=>exact⟨_,a₁,rJ,hq,(by simpa)⟩
 obtain⟨e,a',w',hq,aa⟩:=key n a w h₀;exact⟨e,a',w',hq,.of_steps (.one step_loop) aa⟩
def n9:List (Nat×V)->Env |[]=>iI|(t,v)::r=>ft (n9 r) t v
def wv5(n0:Nat)(keep:alX)(Inv:List V->St->Nat->Prop)(m:Nat)(e:Env)(I:St):Prop:=∃vs s pick,gT n0 pick I s/\bP (cW (cO pick I.length)) vs (keep.map e)/\Inv vs s m
theorem N6(h:ez c nt e I a w L J)(hc:c.β0.length=c.cD.length){keep:alX}{Inv:List V->St->Nat->Prop}{m:Nat}(hk:wv5 c.cD.length keep Inv m e I):∃vs s J',Inv vs s m/\vs.length=keep.length/\ez c nt (n9 (keep.zip vs)) s a w L J':=by obtain⟨vs,s,pick,hp,aa,hI⟩:=hk;have hl:=aa.length;simp at hl;refine⟨vs,s,_,hI,hl,h.mem.pick hp hc,h.size,h.defs,λt=>?_⟩;have hb:=hp.jK h.mem.len;clear hI;revert aa hl;generalize keep=kl;intro aa hl;induction kl generalizing vs with|nil=>trivial|cons q kl ih=>cases vs with|nil=>grind|cons v vs=>
   simp only[E4,n9,ft];by_cases hq:t=q;.subst hq;rw[alq rfl];exact BP hb aa.1 (h.env t)
   .rw[alp hq];exact ih vs aa.2 (by grind)
end
def Fx.{v} {U:Sort v} (_:U):Type:=Unit
def fx.{v} {U:Sort v} {a:U}:Fx a:=()
abbrev KT:=Env->St->Prop
abbrev QT:=Exit->Env->St->Prop
def pg(P:Program)(c:Ctx)(nt:Nat)(code:Code)(Q:QT)(_:Fx code)(_:Fx Q)(e:Env)(I:St):Prop:=rH P c nt code Q e I
def mU(P:Program)(c:Ctx)(nt:Nat)(ops l:List Oper)(K:KT)(_:Fx ops)(_:Fx l)(_:Fx K)(e:Env)(I:St):Prop:=kI P c nt ops l K e I
def fe(P:Program)(c:Ctx)(nt:Nat)(d:Option Tmp)(op:Op)(K:KT)(_:Fx op)(_:Fx K)(e:Env)(I:St):Prop:=jX P c nt d op K e I
def eC(nt:Nat)(d:Option Tmp)(r:R)(K:KT)(_:Fx K)(e:Env)(I:St):Prop:=mQ nt d r K e I
def jd(nt:Nat)(d:Option Tmp)(v:V)(K:KT)(_:Fx K)(e:Env)(I:St):Prop:=fy nt d v K e I
def uj (p q:Prop) (_:Fx q):Prop:=KO p q
def Gu(x:V)(A B:Prop)(_:Fx A)(_:Fx B):Prop:=Ir x A B
def lh(x:V)(want:Bool)(A B:Prop)(_:Fx A)(_:Fx B):Prop:=lg x want A B
def EA(t:Option Tmp)(want:Bool)(e:Env)(A B:Prop)(_:Fx A)(_:Fx B):Prop:=match t with|some t=>lg (e t) want A B|none=>False
def uk(ops:List Oper)(_:Fx ops)(j:Nat):Option Tmp:=kH ops j
def BR(K:KT)(Q:QT)(_:Fx K)(_:Fx Q)(x:Exit)(e:Env)(I:St):Prop:=N0 K Q x e I
def rK(id:Nat)(Q:QT)(_:Fx Q)(x:Exit)(e:Env)(I:St):Prop:=Ey id Q x e I
def gV(P:Program)(c:Ctx)(nt:Nat)(code:Code)(Q:QT)(_:Fx code)(_:Fx Q)(e:Env)(I:St):Prop:=VW P c nt code Q e I
def jn(P:Program)(c:Ctx)(fv:V)(az:List V)(I:St)(K:V->St->Prop)(_:Fx K):Prop:=VC P c fv az I K
def N7(nt:Nat)(d:Option Tmp)(K:KT)(_:Fx K)(e:Env)(v:V)(I:St):Prop:=fy nt d v K e I
section
variable{P:Program}{c:Ctx}{nt:Nat}{e:Env}{I:St}{K:KT}{Q:QT}{d:Option Tmp}
variable{x:Operand}{t:TypeId}{i:Nat}{A:Prop}{B:Prop}{op:BinOp}{b:Bool}{es:Option (List Pk)}{y:Operand}{l:List Operand}{want:Bool}{t':TypeId}{k:IntKind}{f:FuncId}{ops:List Oper}{ty:TypeId}{eK:Array Edge}{n:Int}{p:Prop}{ts:Array TypeId}{ek:Nat}
theorem zM{code:Code}(h:pg P c nt code Q fx fx e I):rH P c nt code Q e I:=h
@[go_sem]theorem EB:pg P c nt .skip Q fx fx e I=Q .normal e I:=id rfl
@[go_sem]theorem Gv{x y:Code}:pg P c nt (.seq x y) Q fx fx e I=pg P c nt x (BR (pg P c nt y Q fx fx) Q fx fx) fx fx e I:=id rfl
@[go_sem]theorem EC{t f:Code}:pg P c nt (.cond x t f) Q fx fx e I=Gu (zI e x) (pg P c nt t Q fx fx e I) (pg P c nt f Q fx fx e I) fx fx:=id rfl
@[go_sem]theorem BS{b:Code}:pg P c nt (.block i b) Q fx fx e I=pg P c nt b (rK i Q fx) fx fx e I:=id rfl
@[go_sem]theorem ED:pg P c nt (.exit i) Q fx fx e I=Q (.exit i) e I:=id rfl
@[go_sem]theorem Gw:pg P c nt .ret Q fx fx e I=Q .ret e I:=id rfl
@[go_sem]theorem ya{l:List Oper}:pg P c nt (.region i l.toArray false) Q fx fx e I=mU P c nt l l (Q .normal) fx fx fx e I:=id rfl
@[go_sem]theorem EE{ops:Array Oper}:pg P c nt (.region i ops true) Q fx fx e I=gV P c nt (.region i ops true) Q fx fx e I:=id rfl
@[go_sem]theorem EF{b:Code}:pg P c nt (.loop b) Q fx fx e I=gV P c nt (.loop b) Q fx fx e I:=id rfl
@[go_sem]theorem yc:BR K Q fx fx .normal e I=K e I:=id rfl
@[go_sem]theorem Gx:BR K Q fx fx .ret e I=Q .ret e I:=id rfl
@[go_sem]theorem EG:BR K Q fx fx (.exit i) e I=Q (.exit i) e I:=id rfl
@[go_sem]theorem BT:rK i Q fx .normal e I=Q .normal e I:=id rfl
@[go_sem]theorem Is:rK i Q fx .ret e I=Q .ret e I:=id rfl
@[go_sem]theorem Gy:rK i Q fx (.exit i) e I=Q .normal e I:=by show(if i=i then _ else _)=_;simp
@[go_sem]theorem Gz{j:Nat}:rK i Q fx (.exit j) e I=if j=i then Q .normal e I else Q (.exit j) e I:=id rfl
theorem xE{op:Op}(h1:iM P e I op=cx P e I op)(h2:jX P c nt d op K e I=mQ nt d (wD P d e I op) K e I):fe P c nt d op K fx fx e I=eC nt d (cx P e I op) K fx e I:=by grind[fe,eC,wD]
def wh(b:Bool)(x y:R):R:=if b=true then x else y
@[go_sem]theorem aaU{x y:R}:wh true x y=x:=rfl
@[go_sem]theorem aaV{x y:R}:wh false x y=y:=rfl
def N8:V->Bool |.cC []=>true|_=>false
@[go_sem]theorem BU{t:Nat}:mD e (some t)=N8 (e (100000+t)):=by rfl
@[go_sem]theorem BV:mD e none=false:=rfl
@[go_sem]theorem It:N8 (.cC [])=true:=rfl
@[go_sem] theorem Iu:N8 .u=false:=rfl
@[go_sem]theorem N9{t:Nat}:iI t=.u:=rfl
@[go_sem]theorem Iv:mU P c nt ops [] K fx fx fx e I=K e I:=id rfl
@[go_sem]theorem GA{rest:List Oper}{op:Op}{pos:String}:mU P c nt ops (⟨d,op,ty,pos,eK,none⟩::rest) K fx fx fx e I=fe P c nt d op (mU P c nt ops rest K fx fx fx) fx fx e I:=id rfl
@[go_sem]theorem EH{rest:List Oper}{op:Op}{pos:String}{j:Nat}:mU P c nt ops (⟨d,op,ty,pos,eK,some (j,want)⟩::rest) K fx fx fx e I=EA (uk ops fx j) want e (fe P c nt d op (mU P c nt ops rest K fx fx fx) fx fx e I) (jd nt d (.cC []) (mU P c nt ops rest K fx fx fx) fx e I) fx fx:=id rfl
@[go_sem]theorem GB{t:Tmp}:EA (some t) want e A B fx fx=lh (e t) want A B fx fx:=id rfl
@[go_sem]theorem GC{d:Option Tmp}{op:Op}{pos:String}{g:Option (Nat×Bool)}{l:List Oper}:uk (⟨d,op,ty,pos,eK,g⟩::l) fx 0=d:=id rfl
@[go_sem]theorem GD{o:Oper}{l:List Oper}{n:Nat}:uk (o::l) fx (n+1)=uk l fx n:=by rfl
@[go_sem]theorem KR:lh (.bool true) true A B fx fx=A:=by grind[lh,lg]
@[go_sem]theorem KS:lh (.bool false) false A B fx fx=A:=by grind[lh,lg]
@[go_sem]theorem KU:lh (.bool true) false A B fx fx=B:=by grind[lh,lg]
@[go_sem]theorem KW:lh (.bool false) true A B fx fx=B:=by grind[lh,lg]
@[go_sem]theorem KX:lh (.cC []) want A B fx fx=B:=by rfl
@[go_sem]theorem KY:Gu (.bool true) A B fx fx=A:=by grind[Gu,Ir]
@[go_sem]theorem KZ:Gu (.bool false) A B fx fx=B:=by grind[Gu,Ir]
theorem zX(ha:b=true->A)(hb:b=false->B):Gu (.bool b) A B fx fx:=⟨ha,hb⟩
theorem xG(ha:b=want->A)(hb:b=(!want)->B):lh (.bool b) want A B fx fx:=⟨ha,λh=>hb (by cases b<;>cases want<;>simp_all)⟩
theorem zJ{q:Prop}(hp:p)(hq:q):uj p q fx:=⟨hp,hq⟩
@[go_sem]theorem K0{q:Prop}:uj True q fx=q:=by grind[uj,KO]
@[go_sem]theorem K3{v:V}:eC nt d (.ok v) K fx e I=jd nt d v K fx e I:=id rfl
@[go_sem]theorem GF{v:V}:eC nt d (.eP p v) K fx e I=uj p (jd nt d v K fx e I) fx:=id rfl
@[go_sem]theorem K4{v:V}{s:St}:eC nt d (.st v s) K fx e I=jd nt d v K fx e s:=id rfl
@[go_sem]theorem BW{v:V}{s:St}:eC nt d (.dR p v s) K fx e I=uj p (jd nt d v K fx e s) fx:=id rfl
@[go_sem]theorem GG{t:Nat}{v:V}:jd nt (some t) v K fx e I=(t<nt/\K (ft e t v) I):=id rfl
@[go_sem]theorem GH{v:V}:jd nt none v K fx e I=K e I:=id rfl
@[go_sem]theorem Iw{v:V}:N7 nt d K fx e v I=jd nt d v K fx e I:=id rfl
@[go_sem]theorem Ix:fe P c nt d (.move x) K fx fx e I=jd nt d (zI e x) K fx e I:=(xE rfl rfl).trans rfl
@[go_sem]theorem EI:fe P c nt d (.assign x) K fx fx e I=jd nt d (zI e x) K fx e I:=(xE rfl rfl).trans rfl
@[go_sem]theorem Iy{z:Operand}:fe P c nt d (.pick x y z) K fx fx e I=eC nt d (AR (zI e x) (zI e y) (zI e z)) K fx e I:=(xE rfl rfl).trans rfl
@[go_sem]theorem GI:fe P c nt d (.alloc t) K fx fx e I=eC nt d (sW P t I) K fx e I:=(xE rfl rfl).trans rfl
@[go_sem]theorem K5:fe P c nt d (.box t x) K fx fx e I=eC nt d (xv I (zI e x)) K fx e I:=(xE rfl rfl).trans rfl
@[go_sem]theorem GJ{l:List (Nat×Operand)}:fe P c nt d (.build t l.toArray) K fx fx e I=eC nt d (AX (xF P t) (fb P t) (l.map λp=>(p.1,zI e p.2))) K fx e I:=(xE rfl rfl).trans rfl
@[go_sem]theorem um{n:Nat}{l:List (Nat×Operand)}:fe P c nt d (.buildSlice t n l.toArray) K fx fx e I=eC nt d (wh (mD e d) (x8 ((eV P t).map (·.1)) n I (l.map λp=>(p.1,zI e p.2))) (xy ((eV P t).map (·.1)) n (l.map λp=>(p.1,zI e p.2)))) K fx e I:=id rfl
@[go_sem]theorem Iz:fe P c nt d (.load t x) K fx fx e I=eC nt d (nW P t I (zI e x)) K fx e I:=(xE rfl rfl).trans rfl
@[go_sem]theorem GK:fe P c nt d (.store t x y) K fx fx e I=eC nt d (vI P t I (zI e x) (zI e y)) K fx e I:=(xE rfl rfl).trans rfl
@[go_sem]theorem K6:fe P c nt d (.nilCheck x) K fx fx e I=eC nt d (AS (zI e x)) K fx e I:=(xE rfl rfl).trans rfl
@[go_sem]theorem K7:fe P c nt d (.binOp op t x y t') K fx fx e I=eC nt d (wh (qR y) (xu op (jl P t) (zI e x)) (wh (sY y) (BK op (nY P t) (zI e x)) (nG op (jl P t) (kZ P t) (zI e x) (zI e y)))) K fx e I:=(xE rfl rfl).trans rfl
@[go_sem]theorem BX{t:Nat}:qR (.tmp t)=false:=rfl
@[go_sem]theorem BY:qR (.const (.slice none 0 0))=true:=rfl
@[go_sem]theorem BZ:qR (.const (.int k n))=false:=rfl
@[go_sem]theorem ye:qR (.const (.bool b))=false:=rfl
@[go_sem]theorem CA{b:ByteArray}:qR (.const (.string b))=false:=rfl
@[go_sem]theorem CB{a:Option Addr}:qR (.const (.pointer a))=false:=rfl
@[go_sem]theorem yf:qR (.func f)=false:=rfl
@[go_sem]theorem CC{m:am2}:qR (.const (.map m))=false:=rfl
@[go_sem]theorem yg{t:Nat}:sY (.tmp t)=false:=rfl
@[go_sem]theorem yh:sY (.const (.map none))=true:=rfl
@[go_sem]theorem yi:sY (.const (.int k n))=false:=rfl
@[go_sem]theorem vO:sY (.const (.bool b))=false:=rfl
@[go_sem]theorem yj{b:ByteArray}:sY (.const (.string b))=false:=rfl
@[go_sem]theorem yl{a:Option Addr}:sY (.const (.pointer a))=false:=rfl
@[go_sem]theorem vP:sY (.func f)=false:=rfl
def SO(l:List (V×St))(A:V->St->Prop)(_:Fx A):Prop:=∀p∈l,A p.1 p.2
@[go_sem]theorem we5{l:List (V×St)}:eC nt d (.any l) K fx e I=SO l (λv s=>jd nt d v K fx e s) fx:=id rfl
theorem wr3{l:List (V×St)}{A:V->St->Prop}(h:∀p∈l,A p.1 p.2):SO l A fx:=h
@[go_sem]theorem CD{r:Option Operand}:fe P c nt d (.makeMap t r) K fx fx e I=eC nt d (BH I (nY P t) (r.map (zI e))) K fx e I:=(xE rfl rfl).trans rfl
@[go_sem]theorem EJ{k:Operand}{ok:Bool}:fe P c nt d (.lookup t x k ok) K fx fx e I=eC nt d (wI (gU P t) I (zI e x) (zI e k) ok) K fx e I:=(xE rfl rfl).trans rfl
@[go_sem]theorem vQ{k v:Operand}:fe P c nt d (.mapUpdate t x k v) K fx fx e I=eC nt d (wC (gU P t) I (zI e x) (zI e k) (zI e v)) K fx e I:=(xE rfl rfl).trans rfl
@[go_sem]theorem GL:fe P c nt d (.range t x) K fx fx e I=eC nt d (BM (nY P t) I (zI e x)) K fx e I:=(xE rfl rfl).trans rfl
@[go_sem]theorem IA:fe P c nt d (.next x false) K fx fx e I=eC nt d (wh (mD e d) (nZ true I (zI e x)) (nZ false I (zI e x))) K fx e I:=id rfl
@[go_sem]theorem EK{k:Operand}:fe P c nt d (.call ⟨.builtin .delete,#[x,k],#[t,t']⟩) K fx fx e I=eC nt d (BJ (gU P t) I (zI e x) (zI e k)) K fx e I:=(xE rfl rfl).trans rfl
attribute[go_sem]H9 Ep BH wI wC BM nZ BJ BK nH pe rE BI BN
def wall(A:Bool->Prop)(_:Fx A):Prop:=∀b,A b
@[go_sem]theorem IB{f:Bool->V}:eC nt d (.all f) K fx e I=wall (λb=>jd nt d (f b) K fx e I) fx:=id rfl
theorem K8{A:Bool->Prop}(h:∀b,A b):wall A fx:=h
@[go_sem]theorem Oa{op:UnOp}:fe P c nt d (.unOp op t x) K fx fx e I=eC nt d (nV op (zI e x)) K fx e I:=(xE rfl rfl).trans rfl
@[go_sem]theorem IC:fe P c nt d (.convert t t' x) K fx fx e I=eC nt d (wh (mD e d) (BD (j9 P t) (j9 P t') I (zI e x)) (xz (j9 P t) (j9 P t') (zI e x))) K fx e I:=id rfl
@[go_sem]theorem GM{hi:Option Operand}:fe P c nt d (.slice t x none hi none) K fx fx e I=eC nt d (tW (ja P t) (dU P t) ((eV P t).map (·.1)) (zI e x) none (hi.map (zI e))) K fx e I:=(xE rfl rfl).trans rfl
@[go_sem]theorem EL{lo hi:Operand}:fe P c nt d (.slice t x (some lo) (some hi) none) K fx fx e I=eC nt d (tW (ja P t) (dU P t) ((eV P t).map (·.1)) (zI e x) (some (zI e lo)) (some (zI e hi))) K fx e I:=(xE rfl rfl).trans rfl
@[go_sem]theorem EM{lo:Operand}:fe P c nt d (.slice t x (some lo) none none) K fx fx e I=eC nt d (wh (mD e d) (AY (dU P t) ((eV P t).map (·.1)) I (zI e x) (zI e lo)) (tW (ja P t) (dU P t) ((eV P t).map (·.1)) (zI e x) (some (zI e lo)) none)) K fx e I:=id rfl
@[go_sem]theorem vR{f:Nat}:fe P c nt d (.fieldAddr t x f) K fx fx e I=eC nt d (AU P t (zI e x) f) K fx e I:=(xE rfl rfl).trans rfl
@[go_sem]theorem GN{f:Nat}:fe P c nt d (.field t x f) K fx fx e I=eC nt d (BB (cu P t f) (zI e x)) K fx e I:=(xE rfl rfl).trans rfl
@[go_sem]theorem CE{i:Operand}:fe P c nt d (.indexAddr t x i) K fx fx e I=eC nt d (xw (fm P t) (ja P t) (zI e x) (zI e i)) K fx e I:=(xE rfl rfl).trans rfl
@[go_sem]theorem K9{i:Operand}:fe P c nt d (.index t x i) K fx fx e I=eC nt d (xx (zI e x) (zI e i) (rA P t) (ja P t)) K fx e I:=(xE rfl rfl).trans rfl
@[go_sem]theorem CF:fe P c nt d (.extract x i) K fx fx e I=eC nt d (AT (zI e x) i) K fx e I:=(xE rfl rfl).trans rfl
@[go_sem]theorem ID{fn:Fn}{m:List Operand}:fe P c nt d (.makeFunc fn l.toArray m.toArray) K fx fx e I=eC nt d (BC fn l.length (m.map (zI e))) K fx e I:=(xE rfl rfl).trans rfl
@[go_sem]theorem IE{l m:Operand}:fe P c nt d (.makeSlice t l m) K fx fx e I=eC nt d (wh (mD e d) (x6 (eV P t) (jJ P t) I (zI e l) (zI e m)) (x5 (eV P t) (jJ P t) I (zI e l) (zI e m))) K fx e I:=id rfl
@[go_sem]theorem Lb:fe P c nt d (.call ⟨.builtin .len,#[x],#[t]⟩) K fx fx e I=eC nt d (AW (dU P t) (zI e x)) K fx e I:=(xE rfl rfl).trans rfl
@[go_sem]theorem GO:fe P c nt d (.call ⟨.builtin .clear,#[x],#[t]⟩) K fx fx e I=eC nt d (x7 ((eV P t).map (·.1)) (jJ P t) I (zI e x)) K fx e I:=(xE rfl rfl).trans rfl
@[go_sem]theorem EN:fe P c nt d (.call ⟨.builtin .append,#[x,y],#[t,t']⟩) K fx fx e I=eC nt d (wh (mD e d) (tT (eV P t) (dU P t') I (zI e x) (zI e y)) (tS (eV P t) (dU P t') I (zI e x) (zI e y))) K fx e I:=id rfl
@[go_sem]theorem Lc:fe P c nt d (.call ⟨.builtin .min,l.toArray,ts⟩) K fx fx e I=eC nt d (rC false (l.map (zI e))) K fx e I:=(xE rfl rfl).trans rfl
@[go_sem]theorem Ld:fe P c nt d (.call ⟨.builtin .max,l.toArray,ts⟩) K fx fx e I=eC nt d (rC true (l.map (zI e))) K fx e I:=(xE rfl rfl).trans rfl
@[go_sem]theorem IF{f:Operand}:fe P c nt d (.call ⟨.value f,l.toArray,ts⟩) K fx fx e I=jn P c (zI e f) (l.map (zI e)) I (N7 nt d K fx e) fx:=id rfl
@[go_sem]theorem GP{t:Nat}:zI e (.tmp t)=e t:=rfl
@[go_sem]theorem CG{v:Value}:zI e (.const v)=jE v:=rfl
@[go_sem]theorem EO{g:Nat}:zI e (.global g)=R1 g:=rfl
@[go_sem]theorem EP:zI e (.func f)=.fn f []:=rfl
@[go_sem]theorem Lf{t':Nat}{v:V}{t:Nat}:ft e t' v t=if t=t' then v else e t:=rfl
@[go_sem]theorem ER:jE (.bool b)=.bool b:=rfl
@[go_sem]theorem GQ:jE (.int k n)=.int k n:=rfl
@[go_sem]theorem GR{s:ByteArray}:jE (.string s)=.str s.data.toList:=rfl
@[go_sem]theorem ET:jE (.pointer none)=.gv:=rfl
@[go_sem]theorem EU:jE (.slice none 0 0)=.sl .full []:=rfl
attribute[go_sem]AY xu H7 En AR AS nV xz BD rC AW xv sW AT BB AU nW sV vI nU xT xx xw tW AZ o9 tS tT Eo tR R7 x7 xy x8 x6 tU AX Gj x5 BC Ig o7 lS sX o8 kJ n9
@[go_sem]theorem GS{x y:Int}:nG op ek es (.int k x) (.int k y)=El op k x y:=by simp[nG]
@[go_sem]theorem GU{x y:alW}:nG op ek es (.str x) (.str y)=Em op x y:=rfl
@[go_sem]theorem EV{x y:Bool}:nG op 1 es (.bool x) (.bool y)=(match op with|.eql=>.ok (.bool (x==y))|.neq=>.ok (.bool (!(x==y)))|_=>.fail):=rfl
@[go_sem]theorem GV{o:Nat}:nG op 2 es (.ptr i o) .gv=(match op with|.eql=>.ok (.bool false)|.neq=>.ok (.bool true)|_=>.fail):=rfl
@[go_sem]theorem GW:nG op 2 es .gv .gv=(match op with|.eql=>.ok (.bool true)|.neq=>.ok (.bool false)|_=>.fail):=rfl
@[go_sem]theorem GX{ks:List Pk}{az bs:List V}:nG op ek (some ks) (.agg az) (.agg bs)=(match lV ks az bs with|some r=>(match op with|.eql=>.ok (.bool r)|.neq=>.ok (.bool (!r))|_=>.fail)|none=>.fail):=rfl
attribute [go_sem] El Em lV ka putCells
end
def s7:V->Bool |.ptr _ _|.sl (.app _) _|.agg _|.cC _|.fn _ _|.cS _ _ _ _ _|.jk _ _ _ _ _|.kF _ _ _ _|.mp _|.iw _ _=>false|_=>true
def mV:V->Bool |.fn _ cd=>cd.all s7|.iw _ vs=>vs.all s7|v=>s7 v
def ym:V->Bool|.agg cs=>cs.all mV|v=>mV v
def gY:V->Bool|.cC vs=>vs.all ym|v=>ym v
def cR(n:Nat):V->Bool |.ptr id _=>decide (id<n)|.sl (.app id) _=>decide (id<n)|.cS id _ _ _ _=>decide (id<n)|.jk id _ _ _ _=>decide (id<n)|.kF id _ _ _=>decide (id<n)|.mp id=>decide (id<n)|.agg _|.cC _|.fn _ _|.iw _ _=>false|_=>true
def cV(n:Nat):V->Bool |.fn _ cd=>cd.all (cR n)|.iw _ vs=>vs.all (cR n)|v=>cR n v
def iu(n:Nat):V->Bool |.agg cs=>cs.all (cV n)|v=>cV n v
def hZ(n:Nat):V->Bool |.cC vs=>vs.all (iu n)|v=>iu n v
def bS(n:Nat):Ob->Bool |.box cells=>cells.all (cV n)|.cv rows _=>rows.all λr=>r.all (cV n)|.mp dZ _ _=>dZ.all (iu n)|.it m _ _ _=>(match m with|some id=>decide (id<n)|none=>true)|_=>true
theorem wF{U:Type}{f:U->U}{p:U->Bool}(h:∀a,p a=true->f a=a):∀{l:List U},l.all p=true->l.map f=l
 |[],_=>rfl|a::l,q=>by simp only[Az,Aa]at q;rw[Ag,h a q.1,wF h q.2]
section
variable {ρ:Nat->Nat}
theorem SP{v:V}(h:s7 v):dv ρ v=v:=by cases v with
 |sl g rows=>cases g<;>first|rfl|simp[s7]at h
 |_=>first|rfl|simp[s7]at h
theorem CH{v:V}(h:mV v):du ρ v=v:=by cases v with
 |fn f cd=>simp only[du];rw[wF (λ_=>SP) h]|iw t v=>simp only[du];rw[wF (λ_=>SP) h]|sl g rows=>cases g<;>first|rfl|simp[mV,s7]at h
 |_=>first|rfl|simp[mV,s7]at h
theorem Oc{v:V}(h:ym v):dQ ρ v=v:=by cases v with
 |agg cs=>simp only[dQ];rw[wF (λ_=>CH) h]|fn f cd=>exact CH (v:=.fn f cd) h|iw t v=>exact CH (v:=.iw t v) h|sl g rows=>cases g<;>first|rfl|simp[ym,mV,s7]at h
 |_=>first|rfl|simp[ym,mV,s7]at h
theorem CI{v:V}(h:gY v):dL ρ v=v:=by cases v with
 |cC vs=>simp only[dL];rw[wF (λ_=>Oc) h]|agg cs=>exact Oc (v:=.agg cs) h|fn f cd=>exact CH (v:=.fn f cd) h|iw t v=>exact CH (v:=.iw t v) h|sl g rows=>cases g<;>first|rfl|simp[gY,ym,mV,s7]at h
 |_=>first|rfl|simp[gY,ym,mV,s7]at h
variable {n:Nat} (jo: ∀i,i<n->ρ i=i)
include jo
theorem CJ{v:V}(h:cR n v):dv ρ v=v:=by cases v with
 |sl g rows=>cases g with|app id=>simp_all[cR,dv]|_=>rfl
 |ptr id off=>simp_all[cR,dv]|cS id s n lo m=>simp_all[cR,dv]|jk id s n k j=>simp_all[cR,dv]|kF id s off n=>simp_all[cR,dv]|mp id=>simp_all[cR,dv]|_=>first|rfl|simp[cR]at h
theorem nI{v:V}(h:cV n v):du ρ v=v:=by cases v with |fn f cd=>simp only[du];rw[wF (by grind[CJ]) h]|iw t v=>simp only[du];rw[wF (by grind[CJ]) h]|sl g rows=>have:=CJ jo (v:=.sl g rows) h;simpa|ptr id off=>exact CJ jo (v:=.ptr id off) h|cS id s' n' lo m=>exact CJ jo (v:=.cS id s' n' lo m) h|jk id s' n' k j=>exact CJ jo (v:=.jk id s' n' k j) h|kF id s' off n'=>exact CJ jo (v:=.kF id s' off n') h|mp id=>exact CJ jo (v:=.mp id) h|_=>first|rfl|simp[cV,cR]at h
theorem Lg{v:V}(h:iu n v):dQ ρ v=v:=by cases v with |agg cs=>simp only[dQ];rw[wF (by grind[nI]) h]|fn f cd=>exact nI jo (v:=.fn f cd) h|iw t v=>exact nI jo (v:=.iw t v) h|sl g rows=>have:=nI jo (v:=.sl g rows) h;simpa|ptr id off=>exact nI jo (v:=.ptr id off) h|cS id s' n' lo m=>exact nI jo (v:=.cS id s' n' lo m) h|jk id s' n' k j=>exact nI jo (v:=.jk id s' n' k j) h|kF id s' off n'=>exact nI jo (v:=.kF id s' off n') h|mp id=>exact nI jo (v:=.mp id) h|_=>first|rfl|simp[iu,cV,cR]at h
theorem Od{v:V}(h:hZ n v):dL ρ v=v:=by cases v with |cC vs=>simp only[dL];rw[wF (by grind[Lg]) h]|agg cs=>exact Lg jo (v:=.agg cs) h|fn f cd=>exact nI jo (v:=.fn f cd) h|iw t v=>exact nI jo (v:=.iw t v) h|sl g rows=>have:=Lg jo (v:=.sl g rows) h;simpa|ptr id off=>exact nI jo (v:=.ptr id off) h|cS id s' n' lo m=>exact nI jo (v:=.cS id s' n' lo m) h|jk id s' n' k j=>exact nI jo (v:=.jk id s' n' k j) h|kF id s' off n'=>exact nI jo (v:=.kF id s' off n') h|mp id=>exact nI jo (v:=.mp id) h|_=>first|rfl|simp[hZ,iu,cV,cR]at h
theorem yV{o:Ob}(h:bS n o):yC ρ o=o:=by cases o with
 |box cells=>simp only[yC];rw[wF (by grind[nI]) h]|cv rows s=>simp only[yC];rw[wF (by grind[wF,nI]) h]|mp dZ gH dm=>simp only[yC];rw[wF (by grind[Lg]) h]|it m since seen last=>cases m with |none=>rfl|some id=>simp_all[bS,yC]
 |_=>rfl
end
theorem rL{n N i:Nat}(h:i<n):cO (List.range n) N i=i:=by grind[jW]
theorem SQ{n0:Nat}{s loc:St}(cZ:s.all (bS s.length))(hn:n0<=s.length):gT n0 (List.range s.length) (s++loc) s:=by
 refine⟨sM,Be,λi j o hi ho=>?_,λi hi=>?_⟩
 .obtain⟨hl,hj⟩:=A3.1 hi;simp at hj hl;subst hj;have:bS s.length o=true:=by grind
  grind[yV,rL]
 grind
theorem zC{ρ:Nat->Nat}{v:V}(h:gY v):cW ρ v v:=.inl (CI h).symm
theorem zK{ρ:Nat->Nat}{g:Tag}{rows:List (List V)}:cW ρ (.sl .ro rows) (.sl g rows):=.inr sM
theorem xR{n N:Nat}{v:V}(h:hZ n v):cW (cO (List.range n) N) v v:=.inl (by grind[Od,rL])
theorem yD{ρ:Nat->Nat}:∀{l:List V},l.all gY=true->bP (cW ρ) l l
 |[],_=>trivial|v::l,h=>by simp only[Az,Aa]at h;exact⟨zC h.1,yD h.2⟩
section
variable{P:Program}{c:Ctx}{nt:Nat}{e:Env}{I:St}{K:KT}{Q:QT}{d:Option Tmp}{R:V->St->Prop}{rs:List ResultVar}{n0:Nat}
def cz(v:Option V)(n0:Nat)(R:V->St->Prop)(I:St):Prop:=∃x,v=some x/\rI n0 R x I
@[go_sem]theorem IG:mT P rs n0 R .ret e I=cz (mS P rs e I) n0 R I:=id rfl
@[go_sem]theorem CK:mT P rs n0 R .normal e I=cz (mS P rs e I) n0 R I:=id rfl
attribute [go_sem] mS Gt Ez
theorem zQ{v r:V}(hr:cW (cO [] I.length) r v)(hR:R r []):cz (some v) 0 R I:=⟨v,rfl,v,I,[],[],r,.refl _ _,⟨rfl,Bo,sM,om⟩,hr,hR⟩
theorem nJ(k:Nat){v r:V}(hk:(I.take k).length=k)(cZ:(I.take k).all (bS k))(hn:n0<=k)(hr:cW (cO (List.range k) I.length) r v)(hR:R r (I.take k)):cz (some v) n0 R I:=by have h1:I.take k++I.drop k=I:=sM;have hp:=SQ (n0:=n0) (s:=I.take k) (loc:=I.drop k) (by rw[hk];exact cZ) (by rw[hk];exact hn);rw[h1,hk]at hp;exact⟨v,rfl,v,I,_,I.take k,r,.refl _ _,hp,hr,hR⟩
theorem Lh(id s:Nat)(rows:List (List V)){v:V}(cP:I[id]?=some (.cv rows s))(hp:xB rows)(h:cz (some (fO id rows v)) n0 R (jG id rows I)):cz (some v) n0 R I:=by obtain⟨x,hx,v1,I1,pick,I',r,hf,hr⟩:=h;cases hx;exact⟨v,rfl,v1,I1,pick,I',r,.step id s rows cP hp hf,hr⟩
abbrev Pure(P:Program)(f:FuncId)(args:List V)(v:V):Prop:=bN P f args [] λr s=>r=v/\s=[]
theorem zL{f:FuncId}{cd args ct:List V}{v:V}{KV:V->St->Prop}(hc:Pure P f ct v)(hb:xI P f)(aa:bP (cW (cO [] I.length)) ct (args++cd))(hn:gY v)(hk:KV v I):jn P c (.fn f cd) args I KV fx:=by refine VC.of hc hb [] Bo rfl sM aa ?_;rintro r I' ⟨rfl,rfl⟩_;grind[CI,yY,fW]
theorem wq9{f:FuncId}{cd args ct:List V}{o:Ob}{i:Nat}{KV:V->St->Prop}{R:V->St->Prop}(hc:bN P f ct [o] R)(hb:xI P f)(ho:I[i]?=some o)(ab:bS 0 o)(aa:bP (cW (cO [i] I.length)) ct (args++cd))(hk:∀r I',R r I'->1<=I'.length->KV (dL (cO [i] I.length) r) (yY [i] I I')):jn P c (.fn f cd) args I KV fx:=by refine VC.of hc hb [i] sM rfl (λk j o' h1 h2=>?_) aa hk;cases k with |zero=>simp at h1 h2;subst h1;subst h2;rw[yV (n:=0) om ab];exact ho|succ k=>grind
end
def mE:Op->Nat |.move _|.assign _|.pick ..|.build ..|.buildSlice ..|.nilCheck _|.binOp ..|.unOp ..|.convert ..|.slice ..|.fieldAddr ..|.field ..|.indexAddr ..|.index ..|.extract ..|.makeFunc ..=>0|.call ⟨.builtin .len,_,_⟩|.call ⟨.builtin .min,_,_⟩|.call ⟨.builtin .max,_,_⟩=>0|.load ..=>1|.alloc ..|.box ..=>3|_=>4
def yB(q:List (Nat×Nat))(i:Nat)(o:Oper):Nat:=match q.find? (·.1==i)with|some p=>min p.2 4|none=>mE o.op
structure Kp where
 x:Nat
 n:Nat
 ex:alX
 ob:Option (Nat×(Ob->R))
abbrev Kp.pre(n:Nat):Kp:=⟨0,n,[],none⟩
def Kp.has(k:Kp)(id:Nat):Bool:=decide (k.x<=id)&&decide (id<k.n)&&!k.ex.contains id
@[go_sem]theorem Kp.Li{n id:Nat}:(Kp.mk 0 n [] none).has id=decide (id<n):=by simp[Kp.has]
@[go_sem]theorem Kp.Lj{x n id:Nat}:(Kp.mk (x+1) n [] none).has id=(decide (x+1<=id)&&decide (id<n)):=by simp[Kp.has]
def Kp.of(k:Kp)(I:St):St×Option R:=(((I.take k.n).mapIdx λi o=>if k.ex.contains i then .dead else o).drop k.x,k.ob.bind λp=>((I.take k.n)[p.1]?).map p.2)
theorem Kp.get{k:Kp}{id:Nat}{I S:St}(h:k.has id)(ht:k.of I=k.of S):I[id]?=S[id]?:=by simp only[Kp.has,Aa,alw,Du]at h;obtain⟨⟨h1,h2⟩,h3⟩:=h;have e:∀τ:St,(k.of τ).1[id-k.x]?=τ[id]?:=(by simp_all[Kp.of]);grind
theorem Kp.mF{k:Kp}{I ext:St}(h:k.n<=I.length):k.of (I++ext)=k.of I:=by grind[Kp.of]
theorem Kp.jq{k:Kp}{I:St}{id:Nat}{o:Ob}(h:(id<k.x/\k.ob=none)\/k.n<=id):k.of (I.set id o)=k.of I:=by
 unfold Kp.of;congr 1;.refine Bi λi=>?_;grind
 grind
theorem Kp.uo{k:Kp}{I:St}{id:Nat}{o o':Ob}(hx:k.ex.contains id)(ho:I[id]?=some o)(hk:∀p,k.ob=some p->p.1=id->p.2 o'=p.2 o):k.of (I.set id o')=k.of I:=by
 unfold Kp.of;congr 1;.congr 1;refine Bi λi=>?_;grind
 .cases aa:k.ob<;>grind
def CL(a b:Nat):Bool:=(a==4&&b !=0)||(b==4&&a !=0)||(a==3&&(b==3||b==2))||(b==3&&a==2)
def pN(ops:List Oper)(o:Oper):List Tmp:=(o.op.operands.toList.filterMap λ|.tmp t=>some t|_=>none)++(match o.guard with|some (j,_)=>(kH ops j).toList|none=>[])++(o.dst.map (100000+·)).toList
def cZ(P:Program)(d:Option Tmp)(e:Env)(op:Op):Prop:=mD e d=false\/∀e I,iM P e I op=cx P e I op
theorem rM{P:Program}{d:Option Tmp}{e:Env}{op:Op}(h:cZ P d e op)(I:St):wD P d e I op=cx P e I op:=by unfold wD;rcases h with h|h;all_goals grind
theorem yG4{d:Option Tmp}{e e':Env}(h:∀t,d=some t->e (100000+t)=e' (100000+t)):mD e d=mD e' d:=by cases d with|none=>rfl|some t=>simp only[mD,h t rfl]
def gJ:List Oper->List alX->List alX|[],acc=>acc|o::os,acc=>gJ os (acc++[((o.after.toList.filter (Region.binds .any)).flatMap λe=>e.on::acc.getD e.on []).eraseDups])
def vS(ops:List Oper)(q:List (Nat×Nat))(i j:Nat)(a b:Oper):Bool:=CL (yB q i a) (yB q j b)||(match a.dst with|some d=>(pN ops b).contains d||b.dst==some d|none=>false)||(match b.dst with|some d=>(pN ops a).contains d|none=>false)
def vT(ops:List Oper)(q:List (Nat×Nat)):Bool:=let b:=gJ ops []
 (List.range ops.length).all λj=>(List.range j).all λi=>match ops[i]?,ops[j]?with|some x,some y=>!vS ops q i j x y||(b.getD j []).contains i|_,_=>true
def s8(ops:List Oper):Bool:=(List.range ops.length).all λj=>match ops[j]?with|some o=>o.after.all λe=>!Region.binds .any e||decide (e.on<j)|none=>true
section
variable{P:Program}{c:Ctx}{nt:Nat}{n0:Kp}
variable {I:St}{e:Env}{e':Env}
theorem SR(ops:List Oper)(D:Nat->Prop)(hD:∀(j:Nat) o,ops[j]?=some o->D j->∀e∈o.after.toList,Region.binds .any e=true->D e.on):∀(rest pre:List Oper)(acc:List alX),ops=pre++rest->acc.length=pre.length->(∀j l,acc[j]?=some l->D j->∀i∈l,D i)->∀j l,(gJ rest acc)[j]?=some l->D j->∀i∈l,D i
 |[],_,acc,_,_,h=>h|o::rest,pre,acc,aa,hlen,h=>by
  rw[gJ];refine SR ops D hD rest (pre++[o]) _ (by grind) (by grind) λj l hj ab i hi=>?_;rcases xK hj with⟨_,hj⟩|⟨hj,hl⟩;.grind
  .have ad:j=pre.length:=om;rw[hl]at hi;have ae:=List.mem_eraseDups.1 hi;grind
def EW(n0:Kp):V->Bool|.ptr id _=>n0.has id|.jk id _ _ _ _=>n0.has id|_=>true
def iv(n0:Kp)(I I':St):Prop:=(∃ext,I'=I++ext)\/n0.of I'=n0.of I
theorem iv.refl{n0:Kp}:iv n0 I I:=.inr rfl
def Fact(P:Program)(c:Ctx)(nt:Nat)(n0:Kp)(ops:List Oper)(q:List (Nat×Nat))(i:Nat)(o:Oper)(e:Env)(I:St)(v:V)(I':St):Prop:=(∀t,o.dst=some t->t<nt)/\(yB q i o<3->I'=I)/\(yB q i o=3->iv n0 I I')/\I.length<=I'.length/\∃g:Bool,(match o.guard with|none=>g=true|some (j,want)=>∃t,kH ops j=some t/\((∃b,e t=.bool b/\g=(b==want))\/(e t=.cC []/\g=false)))/\(if g then(match o.op with |.call ⟨.value f,args,_⟩=>(if yB q i o=0then∀s,VC P c (zI e f) (args.toList.map (zI e)) s (λr s'=>r=v/\s'=s)else if yB q i o=1then∀s,n0.of s=n0.of I->VC P c (zI e f) (args.toList.map (zI e)) s (λr s'=>r=v/\s'=s)else VC P c (zI e f) (args.toList.map (zI e)) I (λr s=>r=v/\s=I'))|op=>(yB q i o<3->cZ P o.dst e op)/\(yB q i o=0->mE op=0)/\(yB q i o=1->(∃t x,op=.load t x/\EW n0 (zI e x)=true)\/(∀t x,op≠.load t x)/\∀s,n0.of s=n0.of I->cx P e s op=cx P e I op)/\((wD P o.dst e I op=.ok v/\I'=I)\/(∃p,wD P o.dst e I op=.eP p v/\p/\I'=I)\/(3<=yB q i o/\(wD P o.dst e I op=.st v I'\/∃p,wD P o.dst e I op=.dR p v I'/\p))))else v=.cC []/\I'=I)
def gB(e:Env)(d:Option Tmp)(v:V):Env:=match d with|some t=>ft e t v|none=>e
def pO(P:Program)(c:Ctx)(nt:Nat)(n0:Kp)(ops:List Oper)(q:List (Nat×Nat)):Nat->List Oper->Env->St->List (V×St)->Prop |_,[],_,_,[]=>True|i,o::os,e,I,(v,I')::tr=>Fact P c nt n0 ops q i o e I v I'/\pO P c nt n0 ops q (i+1) os (gB e o.dst v) I' tr|_,_,_,_,_=>False
def fE(D:Nat->Bool):Nat->List Oper->List (V×St)->Env->Env |i,o::os,(v,_)::tr,e=>fE D (i+1) os tr (if D i then gB e o.dst v else e)|_,_,_,e=>e
def fS(D:Nat->Bool)(q:List (Nat×Nat)):Nat->List Oper->List (V×St)->St->St |i,o::os,(_,I')::tr,s=>fS D q (i+1) os tr (if D i&&decide (3<=yB q i o)then I' else s)|_,_,_,s=>s
theorem CM(e:Env)(d:Option Tmp)(v:V)(t:Tmp)(h:d=some t):gB e d v t=v:=by simp_all[gB,ft]
theorem CN(e:Env)(d:Option Tmp)(v:V)(t:Tmp)(h:d≠some t):gB e d v t=e t:=by cases d with|none=>rfl|some d=>simp only[gB,ft];grind
theorem rN(D D':Nat->Bool)(t:Tmp):∀(os:List Oper)(tr:List (V×St))(i:Nat)(e e':Env),e t=e' t->(∀(k:Nat) o,os[k]?=some o->o.dst=some t->D (i+k)=D' (i+k))->fE D i os tr e t=fE D' i os tr e' t
 |[],_,_,_,_,h,_=>by simpa|o::os,[],_,_,_,h,_=>by simpa|o::os,(v,s)::tr,i,e,e',h,hD=>by
  rw[fE,fE];refine rN D D' t os tr (i+1) _ _ ?_ (λk o' hk hd=>by have:=hD (k+1) o' (sU hk) hd;grind);by_cases hd:o.dst=some t;.have:=hD 0 o rfl hd;rw[D7]at this;grind[CM]
  grind[CN]
theorem Lk(D:Nat->Bool)(t:Tmp)(os:List Oper)(tr:List (V×St))(i:Nat)(e:Env)(h:∀(k:Nat) o,os[k]?=some o->o.dst=some t->D (i+k)=false):fE D i os tr e t=e t:=by have h1:=rN D (λ_=>false) t os tr i e e rfl om;rw[h1];clear h h1;induction os generalizing tr i with|nil=>rfl|cons o os ih=>cases tr<;>simp_all[fE]
theorem EX(D:Nat->Bool)(t:Tmp):∀(os:List Oper)(tr:List (V×St))(i k:Nat)(e:Env)(o:Oper)(v:V)(s:St),os[k]?=some o->tr[k]?=some (v,s)->o.dst=some t->D (i+k)=true->(∀(k':Nat) o',k<k'->os[k']?=some o'->o'.dst=some t->D (i+k')=false)->fE D i os tr e t=v
 |[],_,_,_,_,_,_,_,h,_,_,_,_=>by grind|_::_,[],_,_,_,_,_,_,_,h,_,_,_=>by grind|o1::os,(v1,s1)::tr,i,0,e,o,v,s,h1,h2,hd,hD,hl=>by
  simp at h1 h2;obtain⟨rfl,rfl⟩:=h2;subst h1;rw[fE,alq om,Lk];.grind[CM]
  .intro k o' hk aa;have:=hl (k+1) o' om (sU hk) aa;grind|o1::os,(v1,s1)::tr,i,k+1,e,o,v,s,h1,h2,hd,hD,hl=>by rw[fE];refine EX D t os tr (i+1) k _ o v s (sU h1) (sU h2) hd (by rwa[show i+1+k=i+(k+1)by omega]) λk' o' ad ab aa=>?_;have:=hl (k'+1) o' om (sU ab) aa;rwa[show i+1+k'=i+(k'+1)by omega]
theorem uq(D D':Nat->Bool)(q:List (Nat×Nat)):∀(os:List Oper)(tr:List (V×St))(i:Nat)(s:St),(∀(k:Nat) o,os[k]?=some o->3<=yB q (i+k) o->D (i+k)=D' (i+k))->fS D q i os tr s=fS D' q i os tr s
 |[],_,_,_,_=>by rfl|o::os,[],_,_,_=>by rfl|o::os,(v,I')::tr,i,s,h=>by
  rw[fS,fS];have e1:(if(D i&&decide (3<=yB q i o))=true then I' else s)=(if(D' i&&decide (3<=yB q i o))=true then I' else s):=by
   by_cases hk:3<=yB q i o;.have:=h 0 o rfl om;grind
   grind
  rw[e1];exact uq D D' q os tr (i+1) _ (λk o' hk hd=>by have:=h (k+1) o' (by grind) (by grind);grind)
theorem CO(D:Nat->Bool)(q:List (Nat×Nat))(os:List Oper)(tr:List (V×St))(i:Nat)(s:St)(h:∀(k:Nat) o,os[k]?=some o->3<=yB q (i+k) o->D (i+k)=false):fS D q i os tr s=s:=by have h1:=uq D (λ_=>false) q os tr i s h;rw[h1];clear h h1;induction os generalizing tr i with|nil=>rfl|cons o os ih=>cases tr<;>simp_all[fS]
theorem GY(D:Nat->Bool)(q:List (Nat×Nat)):∀(os:List Oper)(tr:List (V×St))(i k:Nat)(s:St)(o:Oper)(v:V)(I':St),os[k]?=some o->tr[k]?=some (v,I')->3<=yB q (i+k) o->D (i+k)=true->(∀(k':Nat) o',k<k'->os[k']?=some o'->3<=yB q (i+k') o'->D (i+k')=false)->fS D q i os tr s=I'
 |[],_,_,_,_,_,_,_,h,_,_,_,_=>by grind|_::_,[],_,_,_,_,_,_,_,h,_,_,_=>by grind|o1::os,(v1,s1)::tr,i,0,s,o,v,I',h1,h2,hd,hD,hl=>by simp at h1 h2;obtain⟨rfl,rfl⟩:=h2;subst h1;rw[D7]at hd hD;rw[fS,alq (by grind),CO];intro k o' hk aa;have:=hl (k+1) o' om (by grind) (by grind);grind|o1::os,(v1,s1)::tr,i,k+1,s,o,v,I',h1,h2,hd,hD,hl=>by rw[fS];refine GY D q os tr (i+1) k _ o v I' (sU h1) (sU h2) (by rwa[show i+1+k=i+(k+1)by omega]) (by rwa[show i+1+k=i+(k+1)by omega]) λk' o' ad ab aa=>?_;have:=hl (k'+1) o' om (sU ab) (by rwa[show i+(k'+1)=i+1+k' by omega]);rwa[show i+1+k'=i+(k'+1)by omega]
theorem GZ(ops:List Oper)(q:List (Nat×Nat)):∀(os:List Oper)(tr:List (V×St))(i:Nat)(e:Env)(I:St),pO P c nt n0 ops q i os e I tr->tr.length=os.length/\∀(k:Nat) o,os[k]?=some o->∃v I',tr[k]?=some (v,I')/\Fact P c nt n0 ops q (i+k) o (fE (λj=>decide (j<i+k)) i os tr e) (fS (λj=>decide (j<i+k)) q i os tr I) v I'
 |[],[],_,_,_,_=>sM|[],_::_,_,_,_,h=>h.elim|_::_,[],_,_,_,h=>h.elim|o::os,(v,I')::tr,i,e,I,⟨hf,ht⟩=>by obtain⟨hl,aa⟩:=GZ ops q os tr (i+1) _ _ ht;refine⟨by grind,λk o' hk=>?_⟩;cases k with
  |zero=>
   simp at hk;subst hk;refine⟨v,I',rfl,?_⟩;rw[D7,fE,fS];have h1:(if(λj=>decide (j<i)) i=true then gB e o.dst v else e)=e:=sM;have h2:(if((λj=>decide (j<i)) i&&decide (3<=yB q i o))=true then I' else I)=I:=sM;rw[h1,h2];have e1:fE (λj=>decide (j<i)) (i+1) os tr e=e:=by funext t;grind[Lk]
   grind[CO]|succ k=>
   obtain⟨v2,s2,h1,h2⟩:=aa k o' (by grind);refine⟨v2,s2,by grind,?_⟩;rw[show i+(k+1)=i+1+k by omega];rw[fE,fS,alq (by grind)];have hs:(if((λj=>decide (j<i+1+k)) i&&decide (3<=yB q i o))=true then I' else I)=I':=by
    by_cases ab:3<=yB q i o;.grind
    .rw[alp (by grind)];exact(hf.2.1 om).symm
   grind
theorem Oe(op:Op)(h:∀x∈op.operands.toList,zI e x=zI e' x):cx P e I op=cx P e' I op:=by have hl:∀l:List Operand,(∀x∈l,zI e x=zI e' x)->l.map (zI e)=l.map (zI e'):=sM;have dK:∀ps:List (Nat×Operand),(∀x∈ps.map (·.2),zI e x=zI e' x)->(ps.map λp=>(p.1,zI e p.2))=(ps.map λp=>(p.1,zI e' p.2)):=λps hp=>Bb (by grind);cases op with
 |build t ps=>grind[cx,Op.operands]|buildSlice t n ps=>grind[cx,Op.operands]|makeFunc fn first cd=>grind[cx,Op.operands]|slice t x lo hi mx=>cases lo<;>cases hi<;>cases mx<;>simp_all[cx,Op.operands]|makeMap t r=>cases r<;>simp_all[cx,Op.operands]|next x b=>cases b<;>simp_all[cx,Op.operands]|call cl=>obtain⟨aa,args,ts⟩:=cl;cases aa with |builtin b=>have h':∀x∈args.toList,zI e x=zI e' x:=(by grind[Op.operands,Call.operands]);obtain⟨args⟩:=args;cases b<;>simp only[cx];all_goals grind|_=>simp only[cx]
 |_=>first|rfl|(simp_all[cx,Op.operands];done)
theorem yS4(op:Op)(h:∀x∈op.operands.toList,zI e x=zI e' x):iM P e I op=iM P e' I op:=by have hc:=Oe (P:=P) (I:=I) op h;have dK:∀ps:List (Nat×Operand),(∀x∈ps.map (·.2),zI e x=zI e' x)->(ps.map λp=>(p.1,zI e p.2))=(ps.map λp=>(p.1,zI e' p.2)):=λps hp=>Bb (by grind);cases op with
 |buildSlice t n ps=>grind[iM,Op.operands]|makeSlice t l m=>grind[iM,Op.operands]|convert t t' x=>grind[iM,Op.operands]|slice t x lo hi mx=>cases lo with |none=>exact hc|some lo=>cases hi with |some _=>exact hc|none=>cases mx<;>grind[iM,Op.operands]
 |next x b=>cases b<;>simp_all[iM,Op.operands]|call cl=>obtain⟨aa,args,ts⟩:=cl;cases aa with
  |builtin b=>
   have h':∀x∈args.toList,zI e x=zI e' x:=(by grind[Op.operands,Call.operands]);obtain⟨args⟩:=args;cases b;case append=>simp only[iM];grind
   all_goals simpa|_=>exact hc
 |_=>exact hc
theorem yS3{d:Option Tmp}(op:Op)(hd:mD e d=mD e' d)(h:∀x∈op.operands.toList,zI e x=zI e' x):wD P d e I op=wD P d e' I op:=by grind[wD,Oe,yS4]
theorem xQ9{I':St}(o:Oper)(hc:∀f az ts,o.op≠.call ⟨.value f,az,ts⟩)(h:mE o.op=0):cx P e I o.op=cx P e I' o.op:=by obtain⟨dst,op,ty,pos,eK,g⟩:=o;simp only at h hc⊢;cases op with
 |call cl=>obtain⟨aa,args,ts⟩:=cl;cases aa with
  |builtin b=>obtain⟨args⟩:=args;cases b<;>first|(simp[mE]at h;done)|(simp only[cx];done)|(simp only[cx];split<;>first|rfl|contradiction|(rename_i heq;simp at heq))
  |value f=>rfl|_=>rfl
 |slice t x lo hi mx=>cases lo<;>cases hi<;>cases mx<;>rfl|_=>first|rfl|(simp[mE]at h;done)
section
variable{e:Env}{I:St}{a:Act}{w:World}{L:Nat->Nat}{J:alY}
theorem Ll{ops:List Oper}{Q:Exit->Act->World->Prop}{next:Act->World->Prop}(o:Oper){K:Env->St->Prop}(h:ez c nt e I a w L J)(hK:vN o.guard ops e (jX P c nt o.dst o.op K e I) (fy nt o.dst (.cC []) K e I))(hn:∀e' I' a' w' L' J',ez c nt e' I' a' w' L' J'->K e' I'->next a' w'):if Region.wanted o (yielded ops.toArray a.tmps)then o.wp P a w next Q\/(o.asks P a w/\LetsOut Q)else next (a.put o.dst undef) w:=by
 have no:fy nt o.dst (.cC []) K e I->next (a.put o.dst undef) w:=λhv=>by obtain⟨e',hs,hk⟩:=Gs h h.mem (Le.refl _ _) (Ext.refl _ _) (show dP w L I J (.cC []) undef from⟨[],rfl,tV⟩) hv;grind
 unfold vN at hK;split at hK;.rename_i hg;rw[alq (by grind[Region.wanted])];grind[KP]
 .rename_i j want hg;split at hK
  .rename_i t ht;have hv:=h.env t;unfold lg at hK;split at hK
   .rename_i b hb;rw[hb]at hv;have hv:=qQ hv;have hy:yielded ops.toArray a.tmps j=some b:=by
     unfold yielded;unfold kH at ht;have aa:(ops.toArray[j]?).bind (·.dst)=some t:=by grind
     rw[aa];simp only[Av];have ab:t<a.tmps.size:=by
      rcases C3 t a.tmps.size with q|q;.exact q
      .simp[Array.getD,Nat.not_lt.2 q,undef]at hv
     simp_all
    by_cases ad:b=want;.rw[alq (by grind[Region.wanted])];grind[KP]
    simp_all[Region.wanted]
   .rename_i hb;rw[hb]at hv;rw[alp (by grind[Region.wanted,SK])];grind
   grind
  grind
theorem CP{d:Option Tmp}{v:V}{K:Env->St->Prop}(hd:∀t,d=some t->t<nt)(h:K (gB e d v) I):fy nt d v K e I:=by cases d with|none=>exact h|some t=>exact⟨hd t rfl,h⟩
theorem xh1{t:TypeId}{S:St}{x:V}(h:EW n0 x)(ht:n0.of I=n0.of S):nW P t I x=nW P t S x:=by cases x with|ptr id off=>have:I[id]?=S[id]?:=Kp.get h ht;grind[nW]|jk id s n k j=>have:I[id]?=S[id]?:=Kp.get h ht;grind[nW]|_=>rfl
theorem Fact.step{ops:List Oper}{q:List (Nat×Nat)}{i:Nat}{o:Oper}{E:Env}{S:St}{v:V}{I':St}(hf:Fact P c nt n0 ops q i o E S v I')(he:∀t∈pN ops o,e t=E t)(hs:2<=yB q i o->I=S)(h1:yB q i o=1->n0.of I=n0.of S):vN o.guard ops e (jX P c nt o.dst o.op (λe' s'=>e'=gB e o.dst v/\s'=if 3<=yB q i o then I' else I) e I) (fy nt o.dst (.cC []) (λe' s'=>e'=gB e o.dst v/\s'=if 3<=yB q i o then I' else I) e I):=by
 obtain⟨hd,aw,_,_,g,hg,hb⟩:=hf;have ai:∀x∈o.op.operands.toList,zI e x=zI E x:=λx hx=>by cases x with |tmp t=>exact he t (alM _ (by grind))|_=>rfl
 have keep:I'=S->(if 3<=yB q i o then I' else I)=I:=(by grind);have yes:g=true->jX P c nt o.dst o.op (λe' s'=>e'=gB e o.dst v/\s'=if 3<=yB q i o then I' else I) e I:=by
  intro an;rw[alq an]at hb;unfold jX;split
  .rename_i f args ts ab;rw[ab]at hb ai;simp only at hb;have ao:=h1;have h1:zI e f=zI E f:=(by grind[Op.operands,Call.operands]);have h2:args.toList.map (zI e)=args.toList.map (zI E):=(by grind[Bb,Op.operands,Call.operands]);rw[h1,h2];split at hb;.rename_i aq;refine(hb I).mono ?_;rintro x s' ⟨rfl,rfl⟩;exact CP hd (by grind)
   .rename_i aq;split at hb;.rename_i aa;refine(hb I (ao aa)).mono ?_;rintro x s' ⟨rfl,rfl⟩;exact CP hd (by grind)
    rename_i aa;rw[hs om];refine hb.mono ?_;rintro x s' ⟨rfl,rfl⟩;refine CP hd ⟨rfl,?_⟩;grind
  .rename_i ax;have ad:(yB q i o<3->cZ P o.dst E o.op)/\(yB q i o=0->mE o.op=0)/\(yB q i o=1->(∃t x,o.op=.load t x/\EW n0 (zI E x)=true)\/(∀t x,o.op≠.load t x)/\∀s,n0.of s=n0.of S->cx P E s o.op=cx P E S o.op)/\((wD P o.dst E S o.op=.ok v/\I'=S)\/(∃p,wD P o.dst E S o.op=.eP p v/\p/\I'=S)\/(3<=yB q i o/\(wD P o.dst E S o.op=.st v I'\/∃p,wD P o.dst E S o.op=.dR p v I'/\p))):=by grind
   obtain⟨hh,hz,ho,ad⟩:=ad;have ay:mD e o.dst=mD E o.dst:=(by grind[yG4,pN]);have ae:wD P o.dst e I o.op=wD P o.dst E S o.op:=by
    by_cases h3:yB q i o<3
    .have aj:=hh h3;have ar:cZ P o.dst e o.op:=by unfold cZ at aj⊢;grind
     rw[rM ar,rM aj,Oe o.op ai];by_cases h0:yB q i o=0;.grind[xQ9]
     .by_cases aa:yB q i o=1
      .rcases ho aa with⟨t,x,ab,ak⟩|⟨_,ak⟩;.rw[ab];exact xh1 ak (h1 aa)
       grind
      grind
    grind[yS3]
   rw[ae];rcases ad with⟨hr,hq⟩|⟨p,hr,hp,hq⟩|⟨h2,hr|⟨p,hr,hp⟩⟩;.rw[hr];exact CP (K:=(λe' s'=>e'=gB e o.dst v/\s'=if 3<=yB q i o then I' else I)) hd (by grind)
   .rw[hr];exact⟨hp,CP (K:=(λe' s'=>e'=gB e o.dst v/\s'=if 3<=yB q i o then I' else I)) hd (by grind)⟩
   .rw[hr];show fy nt o.dst v (λe' s'=>e'=gB e o.dst v/\s'=if 3<=yB q i o then I' else I) e I';exact CP (K:=(λe' s'=>e'=gB e o.dst v/\s'=if 3<=yB q i o then I' else I)) hd (by grind)
   .rw[hr];show p/\fy nt o.dst v (λe' s'=>e'=gB e o.dst v/\s'=if 3<=yB q i o then I' else I) e I';exact⟨hp,CP (K:=(λe' s'=>e'=gB e o.dst v/\s'=if 3<=yB q i o then I' else I)) hd (by grind)⟩
 have no:g=false->fy nt o.dst (.cC []) (λe' s'=>e'=gB e o.dst v/\s'=if 3<=yB q i o then I' else I) e I:=by intro au;rw[alp (by simp[au])]at hb;obtain⟨rfl,hq⟩:=hb;exact CP hd (by grind)
 unfold vN;split;.grind
 .rename_i j want av;rw[av]at hg;obtain⟨t,ht,af⟩:=hg;rw[ht];simp only;have:e t=E t:=he t (alM _ (by grind));rcases af with⟨b,ah,al⟩|⟨ah,al⟩;.rw[this,ah];exact⟨(by grind),(by grind)⟩
  .rw[this,ah];exact no al
end
variable{ops:List Oper}{q:List (Nat×Nat)}{i:Nat}{j:Nat}{tr:List (V×St)}
theorem xA{a b:Oper}(h:vS ops q i j a b=false):CL (yB q i a) (yB q j b)=false/\(∀d,a.dst=some d->d∉pN ops b/\b.dst≠some d)/\(∀d,b.dst=some d->d∉pN ops a):=by grind[vS]
theorem wN(q:List (Nat×Nat))(i:Nat)(o:Oper):yB q i o<=4:=by
 unfold yB;split;.omega
 .unfold mE;grind
theorem CQ{a b:Nat}(ha:3<=a)(aa:a<=4)(hb:2<=b)(ab:b<=4):CL a b=true:=by have h1:a=3\/a=4:=om;have h2:b=2\/b=3\/b=4:=om;rcases h1 with rfl|rfl<;>rcases h2 with rfl|rfl|rfl<;>rfl
theorem Lm(a b:Nat):CL a b=CL b a:=by grind[CL]
theorem Lo{b:Nat}(hb:1<=b):CL 4 b=true:=by grind[CL]
theorem Lp{e0:Env}{cD:St}(ht:pO P c nt n0 ops q 0 ops e0 cD tr)(hn:n0.n<=cD.length):∀(d j:Nat),j+d<=ops.length->(∀(m:Nat) o,j<=m->m<j+d->ops[m]?=some o->yB q m o≠4)->n0.n<=(fS (λx=>decide (x<j)) q 0 ops tr cD).length/\n0.of (fS (λx=>decide (x<j+d)) q 0 ops tr cD)=n0.of (fS (λx=>decide (x<j)) q 0 ops tr cD):=by
 obtain⟨_,aa⟩:=GZ ops q ops tr 0 e0 cD ht;have next:∀k,k<ops.length->∃o v I',ops[k]?=some o/\Fact P c nt n0 ops q k o (fE (λj=>decide (j<k)) 0 ops tr e0) (fS (λj=>decide (j<k)) q 0 ops tr cD) v I'/\fS (λj=>decide (j<k+1)) q 0 ops tr cD=I':=by
  intro k hk;obtain⟨v,I',ab,hf⟩:=aa k ops[k] sM;rw[Ae]at hf;refine⟨ops[k],v,I',sM,hf,?_⟩;by_cases h3:3<=yB q k ops[k];.refine GY _ q ops tr 0 k cD ops[k] v I' sM ab (by grind) sM (by grind)
  .have:=hf.2.1 om;rw[this];refine uq _ _ q ops tr 0 cD λm o' hm ad=>?_;grind
 have len:∀j,j<=ops.length->n0.n<=(fS (λx=>decide (x<j)) q 0 ops tr cD).length:=by intro j;induction j with|zero=>grind[CO]|succ j ih=>intro hj;obtain⟨o,v,I',_,hf,he⟩:=next j om;rw[he];exact Ax om hf.2.2.2.1
 intro d;induction d with |zero=>grind|succ d ih=>
  intro j hj h4;obtain⟨h1,h2⟩:=ih j om (by grind);refine⟨h1,?_⟩;obtain⟨o,v,I',ho,hf,he⟩:=next (j+d) om;rw[show j+(d+1)=j+d+1by omega,he,<-h2];have ae:=h4 (j+d) o om om ho;have hle:=wN q (j+d) o;by_cases h3:yB q (j+d) o=3
  .rcases hf.2.2.1 h3 with⟨ext,hx⟩|hx;.rw[hx,Kp.mF (len (j+d) om)]
   omega
  .rw[hf.2.1 om]
theorem yn(h:vT ops q){x y:Oper}(aa:i<j)(hx:ops[i]?=some x)(hy:ops[j]?=some y):vS ops q i j x y=false\/i∈(gJ ops []).getD j []:=by unfold vT at h;grind
theorem EY{D:Nat->Bool}(hD:∀(j:Nat) o,ops[j]?=some o->D j=true->∀e∈o.after.toList,Region.binds .any e=true->D e.on)(hi:i∈(gJ ops []).getD j [])(hj:D j):D i=true:=by rw[Aj]at hi;cases hb:(gJ ops [])[j]?with|none=>grind|some l=>rw[hb]at hi;exact SR ops (λk=>D k=true) hD ops [] [] rfl rfl sM j l hb hj i (by grind)
theorem SU{l:Array Bool}(h:l[i]?=some false):(l.setIfInBounds i true).toList.count false+1=l.toList.count false:=by grind
theorem wv8{Q:Exit->Env->St->Prop}{e0:Env}{cD:St}(hn:n0.n<=cD.length)(hd:vT ops q)(aw:s8 ops)(ht:pO P c nt n0 ops q 0 ops e0 cD tr)(hQ:Q .normal (fE (λ_=>true) 0 ops tr e0) (fS (λ_=>true) q 0 ops tr cD)):∀(fuel:Nat)(bM:Array Bool)(a:Act)(w:World)(L:Nat->Nat)(J:alY),bM.size=ops.length->bM.toList.count false=fuel->(∀(j:Nat) o,ops[j]?=some o->bM.getD j false=true->∀e∈o.after.toList,Region.binds .any e=true->bM.getD e.on false=true)->ez c nt (fE (λi=>bM.getD i false) 0 ops tr e0) (fS (λi=>bM.getD i false) q 0 ops tr cD) a w L J->wpAny P .any ops.toArray (fY c nt Q) fuel bM a w:=by
 obtain⟨ax,aJ⟩:=GZ ops q ops tr 0 e0 cD ht;have fin:∀(bM:Array Bool)(a:Act)(w:World)(L:Nat->Nat)(J:alY),ez c nt (fE (λi=>bM.getD i false) 0 ops tr e0) (fS (λi=>bM.getD i false) q 0 ops tr cD) a w L J->(∀i,i<ops.length->bM.getD i false=true)->fY c nt Q .normal a w:=by
  intro bM a w L J hs ab;have e1:fE (λi=>bM.getD i false) 0 ops tr e0=fE (λ_=>true) 0 ops tr e0:=by funext t;exact rN _ _ t ops tr 0 e0 e0 rfl λk o hk _=>by rw[Ae];exact ab k (A3.1 hk).1
  have e2:fS (λi=>bM.getD i false) q 0 ops tr cD=fS (λ_=>true) q 0 ops tr cD:=uq _ _ q ops tr 0 cD λk o hk _=>by rw[Ae];exact ab k (A3.1 hk).1
  rw[e1,e2]at hs;exact⟨_,_,L,J,hs,hQ⟩
 have ay:∀(bM:Array Bool),bM.size=ops.length->Region.ready .any ops.toArray bM=[]->∀i,i<ops.length->bM.getD i false=true:=by intro bM aj hr i;induction i using Nat.strongRecOn with|ind i ih=>intro hi;cases ao:bM.getD i false with|true=>rfl|false=>
    exfalso;have hm:i∈Region.ready .any ops.toArray bM:=by
     refine mem_ready.2 ⟨?_,ops[i],by simp[hi],λe he hb=>?_⟩;.have af:i<bM.size:=om;simpa[Array.getD,af]using ao
     .unfold s8 at aw;simp only[Am,Cs]at aw;have:=aw i hi;rw[A0 hi]at this;simp only[Cl]at this;have:=this e he;simp only[hb,Bool.not_true,Bv,alw]at this;exact ih e.on this om
    rw[hr]at hm;cases hm
 intro fuel;induction fuel with
 |zero=>
  intro bM a w L J aj aB aq hs;have ab:∀i,i<ops.length->bM.getD i false:=by intro i hi;have af:i<bM.size:=om;cases ao:bM[i]with|true=>simp[Array.getD,af,ao]|false=>
    exfalso;have:false∈bM.toList:=by rw[<-ao];simp
    have:=List.count_pos_iff.2 this;omega
  refine⟨?_,fin bM a w L J hs ab⟩;cases hr:Region.ready .any ops.toArray bM with|nil=>rfl|cons i l=>
   exfalso;have hm:i∈Region.ready .any ops.toArray bM:=by rw[hr];simp
   obtain⟨h1,o,ho,_⟩:=mem_ready.1 hm;have hi:i<ops.length:=(A3.1 (sU ho)).1;have:=ab i hi;have af:i<bM.size:=om;simp[Array.getD,af]at this h1;rw[this]at h1;cases h1
 |succ fuel ih=>
  intro bM a w L J aj aB aq hs;refine⟨λhr=>fin bM a w L J hs (ay bM aj hr),λi hi=>?_⟩;obtain⟨h1,o,ho,az⟩:=mem_ready.1 hi;have aa:ops[i]?=some o:=sU ho;have af:i<bM.size:=by rw[aj];exact(A3.1 aa).1
  have ar:bM.getD i false=false:=by simp[Array.getD,af]at h1⊢;exact h1
  have ai:∀k,k≠i->(bM.setIfInBounds i true).getD k false=bM.getD k false:=λk hk=>getD_set_ne false (λq=>hk q.symm);have a1:(bM.setIfInBounds i true).getD i false:=by simp[Array.getD,af]
  have av:∀(j:Nat) o,ops[j]?=some o->(bM.setIfInBounds i true).getD j false=true->∀e∈o.after.toList,Region.binds .any e=true->(bM.setIfInBounds i true).getD e.on false=true:=by
   intro j o' hj aC e he hb;by_cases aD:j=i;.subst aD;rw[aa]at hj;cases hj;exact getD_set_true (az e (sU he) hb)
   .rw[ai j aD]at aC;exact getD_set_true (aq j o' hj aC e he hb)
  have ahead:∀{k:Nat},k≠i->k∈(gJ ops []).getD i []->bM.getD k false=true:=λ{k}hk hb=>by have:=EY (D:=λj=>(bM.setIfInBounds i true).getD j false) av hb a1;rwa[ai k hk]at this
  have oc:∀{k:Nat},i∈(gJ ops []).getD k []->bM.getD k false=false:=λ{k}hb=>by cases hk:bM.getD k false with|false=>rfl|true=>have:=EY (D:=λj=>bM.getD j false) aq hb hk;rw[ar]at this;cases this
  obtain⟨v,I',aE,ak⟩:=aJ i o aa;rw[Ae]at ak;have aF:∀t∈pN ops o,fE (λi=>bM.getD i false) 0 ops tr e0 t=fE (λj=>decide (j<i)) 0 ops tr e0 t:=by
   intro t ax;refine rN _ _ t ops tr 0 e0 e0 rfl λk o' hk ae=>?_;rw[Ae];rcases Bc k i with ad|ad|ad
   .rw[als ad];rcases yn hd ad hk aa with hc|hb;.exact absurd ax ((xA hc).2.1 t ae).1
    .exact ahead om hb
   .subst ad;rw[ar];simp
   .rw[alr om];rcases yn hd ad aa hk with hc|hb;.exact absurd ax ((xA hc).2.2 t ae)
    .exact oc hb
  have au:2<=yB q i o->fS (λi=>bM.getD i false) q 0 ops tr cD=fS (λj=>decide (j<i)) q 0 ops tr cD:=by
   intro ah;refine uq _ _ q ops tr 0 cD λk o' hk ae=>?_;rw[Ae]at ae⊢;rcases Bc k i with ad|ad|ad
   .rw[als ad];rcases yn hd ad hk aa with hc|hb;.have:=(xA hc).1;rw[CQ ae (wN _ _ _) ah (wN _ _ _)]at this;cases this
    .exact ahead om hb
   .subst ad;rw[ar];simp
   .rw[alr om];rcases yn hd ad aa hk with hc|hb;.have:=(xA hc).1;rw[Lm,CQ ae (wN _ _ _) ah (wN _ _ _)]at this;cases this
    .exact oc hb
  have aG:yB q i o=1->n0.of (fS (λi=>bM.getD i false) q 0 ops tr cD)=n0.of (fS (λj=>decide (j<i)) q 0 ops tr cD):=by
   intro aH;have pre:∀N,N<=ops.length->∃m,m<=N/\∀k o',k<N->ops[k]?=some o'->3<=yB q k o'->bM.getD k false=decide (k<m):=by intro N;induction N with |zero=>exactλ_=>⟨0,A7 _,λk o' h=>om⟩|succ N aK=>
     intro hN;obtain⟨m,hm,ab⟩:=aK om;have aI:=A0 (show N<ops.length by omega);by_cases hw:3<=yB q N (ops[N]'om)/\bM.getD N false=true
     .refine⟨N+1,A7 _,λk o' hk al h3=>?_⟩;rw[als hk];by_cases a6:k=N;.subst a6;exact hw.2
      .rcases yn hd (show k<N by omega) al aI with hc|hb;.have:=(xA hc).1;rw[CQ h3 (wN _ _ _) om (wN _ _ _)]at this;cases this
       .exact EY (D:=λj=>bM.getD j false) aq hb hw.2
     .refine⟨m,om,λk o' hk al h3=>?_⟩;by_cases a6:k=N;.subst a6;rw[aI]at al;cases al;rw[alr om];cases hl:bM.getD k false with|false=>rfl|true=>exact absurd ⟨h3,hl⟩ hw
      .exact ab k o' om al h3
   obtain⟨m,hm,ab⟩:=pre ops.length (A7 _);have e1:fS (λi=>bM.getD i false) q 0 ops tr cD=fS (λx=>decide (x<m)) q 0 ops tr cD:=uq _ _ q ops tr 0 cD λk o' hk h3=>by rw[Ae]at h3⊢;exact ab k o' (A3.1 hk).1 hk h3
   rw[e1];have aQ:i<ops.length:=(A3.1 aa).1
   rcases Nat.le_total m i with aL|aL;.have:=(Lp ht hn (i-m) m om (λk o' h5 h6 hk h4=>by
     have h7:=ab k o' (A3.1 hk).1 hk om;rw[alr om]at h7;rcases yn hd (show k<i by omega) hk aa with hc|hb;.have:=(xA hc).1;rw[h4,aH,Lo dC]at this;cases this
     .rw[ahead om hb]at h7;cases h7)).2;rw[show m+(i-m)=i by omega]at this;exact this.symm
   .have:=(Lp ht hn (m-i) i om (λk o' h5 h6 hk h4=>by
     have h7:=ab k o' (A3.1 hk).1 hk om;rw[als om]at h7;have ad:k≠i:=λqq=>by subst qq;rw[hk]at aa;cases aa;omega
     rcases yn hd (show i<k by omega) aa hk with hc|hb;.have:=(xA hc).1;rw[Lm,h4,aH,Lo dC]at this;cases this
     .rw[oc hb]at h7;cases h7)).2;rw[show i+(m-i)=m by omega]at this;exact this
  have aP:=Ll (ops:=ops) (Q:=fY c nt Q) (next:=wpAny P .any ops.toArray (fY c nt Q) fuel (bM.setIfInBounds i true)) o hs (ak.step aF au aG) (by
   rintro e' s' a' w' L' J' aR ⟨rfl,rfl⟩
   refine ih _ a' w' L' J' (sU aj) ?_ av ?_;.have:=SU (l:=bM) (i:=i) (by rw[B4 af];have:=ar;simp[Array.getD,af]at this;rw[this]);omega
   .have e1:gB (fE (λi=>bM.getD i false) 0 ops tr e0) o.dst v=fE (λk=>(bM.setIfInBounds i true).getD k false) 0 ops tr e0:=by
     funext t;by_cases an:o.dst=some t
     .rw[CM _ _ _ _ an];refine(EX _ t ops tr 0 i e0 o v I' aa aE an (by rw[Ae];exact a1) λk' o' a7 a8 aA=>?_).symm;rw[Ae,ai k' om];rcases yn hd a7 aa a8 with hc|hb;.exact absurd aA ((xA hc).2.1 t an).2
      .exact oc hb
     .rw[CN _ _ _ _ an];refine rN _ _ t ops tr 0 e0 e0 rfl λk o' hk ae=>?_;rw[Ae];refine(ai k λq=>?_).symm;subst q;rw[aa]at hk;cases hk;exact an ae
    have e2:(if 3<=yB q i o then I' else fS (λi=>bM.getD i false) q 0 ops tr cD)=fS (λk=>(bM.setIfInBounds i true).getD k false) q 0 ops tr cD:=by
     split
     .rename_i ah;refine(GY _ q ops tr 0 i cD o v I' aa aE (by rw[Ae];exact ah) (by rw[Ae];exact a1) λk' o' a7 a8 aA=>?_).symm;rw[Ae]at aA⊢;rw[ai k' om];rcases yn hd a7 aa a8 with hc|hb;.have:=(xA hc).1;rw[CQ ah (wN _ _ _) om (wN _ _ _)]at this;cases this
      .exact oc hb
     .rename_i ah;refine uq _ _ q ops tr 0 cD λk o' hk ae=>?_;rw[Ae]at ae⊢;refine(ai k λq=>?_).symm;subst q;rw[aa]at hk;cases hk;exact ah ae
    grind);grind[wpOp]
theorem VW.draw{id:Nat}{Q:Exit->Env->St->Prop}{e:Env}{I:St}(hm:P.follows .mixedOrders)(hn:n0.n<=I.length)(hd:vT ops q)(aa:s8 ops)(ht:pO P c nt n0 ops q 0 ops e I tr)(hQ:Q .normal (fE (λ_=>true) 0 ops tr e) (fS (λ_=>true) q 0 ops tr I)):VW P c nt (.region id ops.toArray true) Q e I:=by
 intro a w L J hs;refine wp_region_any hm ?_;have hg:∀j,(Array.replicate ops.toArray.size false).getD j false=false:=(by simp[Array.getD]);have e1:fE (λi=>(Array.replicate ops.toArray.size false).getD i false) 0 ops tr e=e:=by funext t;grind[Lk]
 have e2:fS (λi=>(Array.replicate ops.toArray.size false).getD i false) q 0 ops tr I=I:=(by grind[CO]);refine wv8 hn hd aa ht hQ _ _ a w.drew L J sM sM (by grind) ?_;rw[e1,e2];obtain⟨ab,hle⟩:=hs.mem.drew;exact⟨ab,hs.size,hs.defs,λt=>(hs.env t).mono hle (Ext.refl _ _)⟩
end
def rO:R->Bool|.st ..|.dR ..=>true|_=>false
def CR:R->Bool|.all _|.any _=>true|_=>false
def kf(n0:Kp)(k:Nat)(I:St):R->Prop|.st _ I'|.dR _ _ I'=>I.length<=I'.length/\(k=3->iv n0 I I')|_=>True
def gx(P:Program)(c:Ctx)(nt:Nat)(n0:Kp)(k:Nat)(d:Option Tmp)(op:Op)(K:KT)(e:Env)(I:St):Prop:=match op with |.call ⟨.value f,args,_⟩=>∃v I',(if k=0then∀s,VC P c (zI e f) (args.toList.map (zI e)) s (λr s'=>r=v/\s'=s)else if k=1then∀s,n0.of s=n0.of I->VC P c (zI e f) (args.toList.map (zI e)) s (λr s'=>r=v/\s'=s)else VC P c (zI e f) (args.toList.map (zI e)) I (λr s=>r=v/\s=I'))/\(k<3->I'=I)/\(k=3->iv n0 I I')/\I.length<=I'.length/\fy nt d v K e I'|op=>(k<3->cZ P d e op)/\CR (wD P d e I op)=false/\(k=0->mE op=0)/\(k=1->(∃t x,op=.load t x/\EW n0 (zI e x)=true)\/(∀t x,op≠.load t x)/\∀s,n0.of s=n0.of I->cx P e s op=cx P e I op)/\(rO (wD P d e I op)=true->3<=k)/\kf n0 k I (wD P d e I op)/\mQ nt d (wD P d e I op) K e I
def ta(P:Program)(c:Ctx)(nt:Nat)(n0:Kp)(ops:List Oper)(q:List (Nat×Nat)):Nat->List Oper->KT->Env->St->Prop |_,[],K,e,I=>K e I|i,o::os,K,e,I=>vN o.guard ops e (gx P c nt n0 (yB q i o) o.dst o.op (ta P c nt n0 ops q (i+1) os K) e I) (fy nt o.dst (.cC []) (ta P c nt n0 ops q (i+1) os K) e I)
section
variable{P:Program}{c:Ctx}{nt:Nat}{n0:Kp}
variable{x:Operand}{t:TypeId}{op:Op}{f:FuncId}{cd:List V}{ct:List V}{KV:V->St->Prop}{ops:List Oper}{i:Nat}{y:Operand}{s1:St}{q:List (Nat×Nat)}{n:Nat}{ts:Array TypeId}
theorem Of{d:Option Tmp}{v:V}{K:KT}{e:Env}{I:St}(h:fy nt d v K e I):(∀t,d=some t->t<nt)/\K (gB e d v) I:=by cases d<;>simpa
theorem EZ{ops:List Oper}{q:List (Nat×Nat)}:∀(os:List Oper)(i:Nat)(K:KT)(e:Env)(I:St),ta P c nt n0 ops q i os K e I->∃tr,pO P c nt n0 ops q i os e I tr/\K (fE (λ_=>true) i os tr e) (fS (λ_=>true) q i os tr I)
 |[],i,K,e,I,h=>⟨[],tV,h⟩|o::os,i,K,e,I,h=>by
  have go:∀(v:V)(I':St),Fact P c nt n0 ops q i o e I v I'->ta P c nt n0 ops q (i+1) os K (gB e o.dst v) I'->∃tr,pO P c nt n0 ops q i (o::os) e I tr/\K (fE (λ_=>true) i (o::os) tr e) (fS (λ_=>true) q i (o::os) tr I):=by
   intro v I' hf hk;obtain⟨tr,ht,hK⟩:=EZ os (i+1) K _ _ hk;refine⟨(v,I')::tr,⟨hf,ht⟩,?_⟩;rw[fE,fS,alq rfl];have:(if((λ_=>true) i&&decide (3<=yB q i o))=true then I' else I)=I':=by
    by_cases h2:3<=yB q i o;.grind
    .rw[alp (by simp[h2])];exact(hf.2.1 om).symm
   grind
  have yes:(match o.guard with|none=>True|some (j,want)=>∃t b,kH ops j=some t/\e t=.bool b/\b=want)->gx P c nt n0 (yB q i o) o.dst o.op (ta P c nt n0 ops q (i+1) os K) e I->∃tr,pO P c nt n0 ops q i (o::os) e I tr/\K (fE (λ_=>true) i (o::os) tr e) (fS (λ_=>true) q i (o::os) tr I):=by
   intro hg hv;have af:∃g:Bool,(match o.guard with|none=>g=true|some (j,want)=>∃t,kH ops j=some t/\((∃b,e t=.bool b/\g=(b==want))\/(e t=.cC []/\g=false)))/\g=true:=by refine⟨true,?_,rfl⟩;grind
   obtain⟨g,ab,rfl⟩:=af;unfold gx at hv;split at hv;.rename_i f args ts aj;obtain⟨v,I',ak,ah,h3,hlen,hp⟩:=hv;obtain⟨hd,hk⟩:=Of hp;refine go v I' ⟨hd,ah,h3,hlen,true,ab,?_⟩ hk;grind
   .rename_i al;obtain⟨an,ad,hz,ao,ae,aa,hv⟩:=hv;have done:∀v I',(yB q i o<3->I'=I)->(yB q i o=3->iv n0 I I')->I.length<=I'.length->((wD P o.dst e I o.op=.ok v/\I'=I)\/(∃p,wD P o.dst e I o.op=.eP p v/\p/\I'=I)\/(3<=yB q i o/\(wD P o.dst e I o.op=.st v I'\/∃p,wD P o.dst e I o.op=.dR p v I'/\p)))->fy nt o.dst v (ta P c nt n0 ops q (i+1) os K) e I'->∃tr,pO P c nt n0 ops q i (o::os) e I tr/\K (fE (λ_=>true) i (o::os) tr e) (fS (λ_=>true) q i (o::os) tr I):=by intro v I' h2 h3 hlen hf hp;obtain⟨hd,hk⟩:=Of hp;refine go v I' ⟨hd,h2,h3,hlen,true,ab,?_⟩ hk;grind
    cases hr:wD P o.dst e I o.op with |all f=>rw[hr]at ad;trivial|any l=>rw[hr]at ad;trivial|fail=>rw[hr]at hv;trivial|ok v=>rw[hr]at hv;exact done v I sM (λ_=>iv.refl) om (by grind) hv|eP p v=>rw[hr]at hv;exact done v I sM (λ_=>iv.refl) om (.inr (.inl ⟨p,hr,hv.1,rfl⟩)) hv.2|st v I'=>rw[hr]at hv aa;have h3:=ae (by rw[hr];rfl);exact done v I' om aa.2 aa.1 (by grind) hv|dR p v I'=>rw[hr]at hv aa;have h3:=ae (by rw[hr];rfl);exact done v I' om aa.2 aa.1 (.inr (.inr ⟨h3,.inr ⟨p,hr,hv.1⟩⟩)) hv.2
  have no:(∃j want t,o.guard=some (j,want)/\kH ops j=some t/\((∃b,e t=.bool b/\b≠want)\/e t=.cC []))->fy nt o.dst (.cC []) (ta P c nt n0 ops q (i+1) os K) e I->∃tr,pO P c nt n0 ops q i (o::os) e I tr/\K (fE (λ_=>true) i (o::os) tr e) (fS (λ_=>true) q i (o::os) tr I):=by rintro⟨j,want,t,hg,h1,h2⟩hv;obtain⟨hd,hk⟩:=Of hv;refine go (.cC []) I ⟨hd,λ_=>rfl,λ_=>iv.refl,om,false,?_,?_⟩ hk;all_goals grind
  unfold ta vN at h;split at h;.grind
  .rename_i j want hg;split at h
   .rename_i t ht;unfold lg at h;split at h
    .rename_i b hb;by_cases ai:b=want;.grind
     .exact no (by grind) (h.2 ai)
    .rename_i hb;exact no (by grind) h
    grind
   grind
def tc(P:Program)(c:Ctx)(nt:Nat)(n0:Kp)(ops:List Oper)(q:List (Nat×Nat))(i:Nat)(l:List Oper)(K:KT)(_:Fx ops)(_:Fx l)(_:Fx K)(e:Env)(I:St):Prop:=ta P c nt n0 ops q i l K e I
def ff(P:Program)(c:Ctx)(nt:Nat)(n0:Kp)(k:Nat)(d:Option Tmp)(op:Op)(K:KT)(_:Fx op)(_:Fx K)(e:Env)(I:St):Prop:=gx P c nt n0 k d op K e I
def qS(P:Program)(c:Ctx)(n0:Kp)(k:Nat)(fv:V)(az:List V)(I:St)(K:V->St->Prop)(_:Fx K):Prop:=∃v I',(if k=0then∀s,VC P c fv az s (λr s'=>r=v/\s'=s)else if k=1then∀s,n0.of s=n0.of I->VC P c fv az s (λr s'=>r=v/\s'=s)else VC P c fv az I (λr s=>r=v/\s=I'))/\(k<3->I'=I)/\(k=3->iv n0 I I')/\I.length<=I'.length/\K v I'
theorem yA{id:Nat}{Q:QT}{e:Env}{I:St}(q:List (Nat×Nat))(n0:Nat)(hn:I.length=n0)(hm:P.follows .mixedOrders)(hd:(vT ops q&&s8 ops))(h:tc P c nt (Kp.pre n0) ops q 0 ops (Q .normal) fx fx fx e I):gV P c nt (.region id ops.toArray true) Q fx fx e I:=by simp only[Aa]at hd;obtain⟨tr,ht,hK⟩:=EZ ops 0 (Q .normal) e I h;exact VW.draw (n0:=Kp.pre n0) hm (by grind) hd.1 hd.2 ht hK
def Og(q:List (Nat×Nat))(i:Nat)(op:Op):Nat:=match q.find? (·.1==i)with|some p=>min p.2 4|none=>mE op
variable{e:Env}{I:St}{K:KT}{Q:QT}{d:Option Tmp}{k:Nat}
@[go_sem]theorem Lq:tc P c nt n0 ops q i [] K fx fx fx e I=K e I:=id rfl
@[go_sem]theorem IH{rest:List Oper}{ty:TypeId}{pos:String}{eK:Array Edge}:tc P c nt n0 ops q i (⟨d,op,ty,pos,eK,none⟩::rest) K fx fx fx e I=ff P c nt n0 (Og q i op) d op (tc P c nt n0 ops q (i+1) rest K fx fx fx) fx fx e I:=id rfl
@[go_sem]theorem G0{rest:List Oper}{ty:TypeId}{pos:String}{eK:Array Edge}{j:Nat}{want:Bool}:tc P c nt n0 ops q i (⟨d,op,ty,pos,eK,some (j,want)⟩::rest) K fx fx fx e I=EA (uk ops fx j) want e (ff P c nt n0 (Og q i op) d op (tc P c nt n0 ops q (i+1) rest K fx fx fx) fx fx e I) (jd nt d (.cC []) (tc P c nt n0 ops q (i+1) rest K fx fx fx) fx e I) fx fx:=id rfl
attribute [go_sem] Og EW
theorem G1(op:Op)(h:mE op<3):rO (cx P e I op)=false:=by cases op with
 |call cl=>obtain⟨aa,⟨args⟩,ts⟩:=cl;cases aa with
  |builtin b=>
   cases b;case len=>simp only[cx];split<;>first|rfl|(rename_i heq;simp at heq;done)|(unfold AW;(repeat' split)<;>rfl)
   case min=>simp only[cx];unfold rC;(repeat' split)<;>rfl
   case max=>simp only[cx];unfold rC;(repeat' split)<;>rfl
   all_goals trivial|_=>rfl
 |slice t x lo hi mx=>cases lo<;>cases hi<;>cases mx<;>simp only[cx]<;>first|rfl|(unfold tW;(repeat' split)<;>rfl)|(unfold AZ;(repeat' split)<;>rfl)
 |move x=>rfl|assign x=>rfl|pick x y z=>simp only[cx];unfold AR;(repeat' split)<;>rfl|build t ps=>simp only[cx];unfold AX;(repeat' split)<;>rfl|buildSlice t n ps=>simp only[cx];unfold xy;(repeat' split)<;>rfl|nilCheck x=>simp only[cx];unfold AS;(repeat' split)<;>rfl|binOp o t x y t'=>simp only[cx];unfold xu H7 BK nG El Em;(repeat' split)<;>rfl|unOp o t x=>simp only[cx];unfold nV;(repeat' split)<;>rfl|convert t t' x=>simp only[cx];unfold xz;(repeat' split)<;>rfl|fieldAddr t x f=>simp only[cx];unfold AU;(repeat' split)<;>rfl|field t x f=>simp only[cx];unfold BB;(repeat' split)<;>rfl|indexAddr t x i=>simp only[cx];unfold xw;(repeat' split)<;>rfl|index t x i=>simp only[cx];unfold xx;(repeat' split)<;>rfl|extract x i=>simp only[cx];unfold AT;(repeat' split)<;>rfl|makeFunc fn l m=>simp only[cx];unfold BC;(repeat' split)<;>rfl|load t x=>simp only[cx];unfold nW;(repeat' split)<;>first|rfl|(unfold sV;(repeat' split)<;>rfl)
 |_=>first|(simp[mE]at h;done)|rfl
theorem yo(op:Op)(h:∀o t x y t',op≠.binOp o t x y t'):CR (cx P e I op)=false:=by cases op with
 |call cl=>obtain⟨aa,⟨args⟩,ts⟩:=cl;cases aa with
  |builtin b=>
   cases b;case len=>simp only[cx];split<;>first|rfl|(rename_i heq;simp at heq;done)|(unfold AW;(repeat' split)<;>rfl)
   case append=>simp only[cx];split<;>first|rfl|(rename_i heq;simp at heq;done)|(unfold tS;(repeat' split)<;>rfl)
   case clear=>simp only[cx];split<;>first|rfl|(rename_i heq;simp at heq;done)|(unfold x7;(repeat' split)<;>rfl)
   case delete=>simp only[cx];split<;>first|rfl|(rename_i heq;simp at heq;done)|(unfold BJ;(repeat' split)<;>rfl)
   case min=>simp only[cx];unfold rC;(repeat' split)<;>rfl
   case max=>simp only[cx];unfold rC;(repeat' split)<;>rfl
   all_goals rfl|_=>rfl
 |slice t x lo hi mx=>cases lo<;>cases hi<;>cases mx<;>simp only[cx]<;>first|rfl|(unfold tW;(repeat' split)<;>rfl)|(unfold AZ;(repeat' split)<;>rfl)
 |pick x y z=>simp only[cx];unfold AR;(repeat' split)<;>rfl|alloc t=>simp only[cx];unfold sW;(repeat' split)<;>rfl|box t x=>simp only[cx];unfold xv;(repeat' split)<;>rfl|store t x y=>simp only[cx];unfold vI;(repeat' split)<;>rfl|makeSlice t l m=>simp only[cx];unfold x5;(repeat' split)<;>rfl|build t ps=>simp only[cx];unfold AX;(repeat' split)<;>rfl|buildSlice t n ps=>simp only[cx];unfold xy;(repeat' split)<;>rfl|nilCheck x=>simp only[cx];unfold AS;(repeat' split)<;>rfl|binOp o t x y t'=>grind|unOp o t x=>simp only[cx];unfold nV;(repeat' split)<;>rfl|convert t t' x=>simp only[cx];unfold xz;(repeat' split)<;>rfl|fieldAddr t x f=>simp only[cx];unfold AU;(repeat' split)<;>rfl|field t x f=>simp only[cx];unfold BB;(repeat' split)<;>rfl|indexAddr t x i=>simp only[cx];unfold xw;(repeat' split)<;>rfl|index t x i=>simp only[cx];unfold xx;(repeat' split)<;>rfl|extract x i=>simp only[cx];unfold AT;(repeat' split)<;>rfl|makeFunc fn l m=>simp only[cx];unfold BC;(repeat' split)<;>rfl|load t x=>simp only[cx];unfold nW;(repeat' split)<;>first|rfl|(unfold sV;(repeat' split)<;>rfl)
 |makeMap t r=>simp only[cx];unfold BH;(repeat' split)<;>rfl|lookup t x k ok=>simp only[cx];unfold wI;(repeat' split)<;>rfl|mapUpdate t x k v=>simp only[cx];unfold wC;(repeat' split)<;>rfl|insert t x k v=>simp only[cx];unfold wC;(repeat' split)<;>rfl|range t x=>simp only[cx];unfold BM;(repeat' split)<;>rfl|entry x=>simp only[cx];unfold rF;(repeat' split)<;>rfl|makeInterface t x=>simp only[cx];unfold BO;(repeat' split)<;>rfl|mapEntry t x k=>simp only[cx];unfold wL;(repeat' split)<;>rfl|entryStore t x k v=>simp only[cx];unfold xZ;(repeat' split)<;>rfl|next x b=>cases b<;>simp only[cx]<;>first|rfl|(unfold nZ;(repeat' split)<;>first|rfl|contradiction)
 |_=>rfl
theorem CS{r:R}(h:rO r=false):kf n0 k I r:=by cases r<;>first|trivial|cases h
theorem ur(hA:∀o t x y t',op≠.binOp o t x y t')(hL:∀e I,iM P e I op=cx P e I op)(h:mE op=0)(hc:∀f az ts,op≠.call ⟨.value f,az,ts⟩):ff P c nt n0 0 d op K fx fx e I=fe P c nt d op K fx fx e I:=by
 show gx P c nt n0 0 d op K e I=jX P c nt d op K e I;have hh:cZ P d e op:=.inr hL;unfold gx jX;split;.grind
 .have:=G1 (P:=P) (e:=e) (I:=I) op om;split;.grind
  grind[CS,rM,yo]
theorem Oh(hA:∀o t x y t',op≠.binOp o t x y t')(h:mE op=0)(hc:∀f az ts,op≠.call ⟨.value f,az,ts⟩):ff P c nt n0 0 d op K fx fx e I=uj (cZ P d e op) (fe P c nt d op K fx fx e I) fx:=by
 show gx P c nt n0 0 d op K e I=(cZ P d e op/\jX P c nt d op K e I);by_cases hh:cZ P d e op
 .unfold gx jX;split;.grind
  .have:=G1 (P:=P) (e:=e) (I:=I) op om;split;.grind
   grind[CS,rM,yo]
 .unfold gx;grind
@[go_sem]theorem SV(h:mD e d=false):cZ P d e op=True:=by grind[cZ]
theorem Oi:cZ P d e (.load t x):=.inr λ_ _=>rfl
theorem xp4:ff P c nt n0 1 d (.load t x) K fx fx e I=uj (EW n0 (zI e x)=true) (fe P c nt d (.load t x) K fx fx e I) fx:=by
 show gx P c nt n0 1 d (.load t x) K e I=(_/\jX P c nt d (.load t x) K e I);have:=G1 (P:=P) (e:=e) (I:=I) (.load t x) (show 1<3by omega);have h2:kf n0 1 I (cx P e I (.load t x)):=CS this;have hA:=yo (P:=P) (e:=e) (I:=I) (.load t x) (λ_ _ _ _ _ h=>by cases h);simp only[gx,jX,this,h2,rM Oi,hA];refine propext ⟨λh=>?_,λh=>?_⟩;.grind
 .exact⟨λ_=>Oi,tV,om,(by grind),sM,tV,h.2⟩
theorem xp5:ff P c nt n0 2 d (.load t x) K fx fx e I=fe P c nt d (.load t x) K fx fx e I:=by show gx P c nt n0 2 d (.load t x) K e I=jX P c nt d (.load t x) K e I;have:=G1 (P:=P) (e:=e) (I:=I) (.load t x) (show 1<3by omega);grind[CS,yo,gx,jX,rM,Oi]
theorem Oj:kf n0 4 I (cx P e I op):=by
 by_cases h:mE op<3;.grind[CS,G1]
 .cases op with
  |alloc t=>simp only[cx];unfold sW;(repeat' split)<;>first|trivial|exact⟨sM,om⟩
  |box t x=>simp only[cx];unfold xv;(repeat' split)<;>first|trivial|exact⟨sM,om⟩
  |store t x y=>simp only[cx];unfold vI;(repeat' split)<;>first|trivial|exact⟨sM,om⟩
  |makeSlice t l m=>simp only[cx];unfold x5;(repeat' split)<;>first|trivial|exact⟨sM,om⟩
  |makeMap t r=>simp only[cx];unfold BH;(repeat' split)<;>first|trivial|exact⟨sM,om⟩
  |lookup t x k ok=>simp only[cx];unfold wI;(repeat' split)<;>trivial|mapUpdate t x k v=>simp only[cx];unfold wC;(repeat' split)<;>first|trivial|exact⟨sM,om⟩
  |insert t x k v=>simp only[cx];unfold wC;(repeat' split)<;>first|trivial|exact⟨sM,om⟩
  |range t x=>simp only[cx];unfold BM;(repeat' split)<;>first|trivial|exact⟨sM,om⟩
  |entry x=>simp only[cx];unfold rF;(repeat' split)<;>trivial|makeInterface t x=>simp only[cx];unfold BO;(repeat' split)<;>trivial|mapEntry t x k=>simp only[cx];unfold wL;(repeat' split)<;>first|trivial|exact⟨sM,om⟩
  |entryStore t x s v=>simp only[cx];unfold xZ;(repeat' split)<;>first|trivial|exact⟨sM,om⟩
  |next x b=>cases b<;>simp only[cx]<;>first|trivial|(unfold nZ;(repeat' split)<;>first|trivial|exact⟨sM,om⟩)
  |call cl=>obtain⟨aa,⟨args⟩,ts⟩:=cl;cases aa with
   |builtin b=>
    cases b;case append=>simp only[cx];split<;>first|trivial|(rename_i heq;simp at heq;done)|(unfold tS;(repeat' split)<;>first|trivial|exact⟨sM,om⟩)
    case clear=>simp only[cx];split<;>first|trivial|(rename_i heq;simp at heq;done)|(unfold x7;(repeat' split)<;>first|trivial|exact⟨sM,om⟩)
    case delete=>simp only[cx];split<;>first|trivial|(rename_i heq;simp at heq;done)|(unfold BJ;(repeat' split)<;>first|trivial|exact⟨sM,om⟩)
    all_goals first|(simp[mE]at h;done)|trivial
   |_=>trivial
  |slice t x lo hi mx=>grind[mE]|_=>first|(simp[mE]at h;done)|trivial
theorem SX(op:Op)(hA:∀o t x y t',op≠.binOp o t x y t')(hN:∀x b,op≠.next x b):CR (iM P e I op)=false:=by have h:=yo (P:=P) (e:=e) (I:=I) op hA;cases op with
 |buildSlice t n ps=>simp only[iM];unfold x8;(repeat' split)<;>rfl|makeSlice t l m=>simp only[iM];unfold x6;(repeat' split)<;>rfl|convert t t' x=>simp only[iM];unfold BD;(repeat' split)<;>rfl|slice t x lo hi mx=>cases lo with |none=>exact h|some lo=>cases hi with |some _=>exact h|none=>cases mx with |some _=>exact h|none=>simp only[iM];unfold AY;(repeat' split)<;>rfl
 |next x b=>grind|call cl=>obtain⟨aa,⟨args⟩,ts⟩:=cl;cases aa with
  |builtin b=>
   cases b;case append=>simp only[iM];split<;>first|exact h|(rename_i heq;simp at heq;done)|(unfold tT;(repeat' split)<;>rfl)
   all_goals simpa|_=>exact h
 |_=>exact h
theorem xn4:kf n0 4 I (iM P e I op):=by have h:kf n0 4 I (cx P e I op):=Oj;cases op with
 |buildSlice t n ps=>simp only[iM];unfold x8;(repeat' split)<;>first|trivial|exact⟨sM,om⟩
 |makeSlice t l m=>simp only[iM];unfold x6;(repeat' split)<;>first|trivial|exact⟨sM,om⟩
 |convert t t' x=>simp only[iM];unfold BD;(repeat' split)<;>first|trivial|exact⟨sM,om⟩
 |slice t x lo hi mx=>cases lo with|none=>exact h|some lo=>cases hi with |some _=>exact h|none=>cases mx with |some _=>exact h|none=>simp only[iM];unfold AY;(repeat' split)<;>first|trivial|exact⟨sM,om⟩
 |next x b=>cases b<;>simp only[iM]<;>first|exact h|(unfold nZ;(repeat' split)<;>first|trivial|exact⟨sM,om⟩)
 |call cl=>obtain⟨aa,⟨args⟩,ts⟩:=cl;cases aa with
  |builtin b=>
   cases b;case append=>simp only[iM];split<;>first|exact h|(rename_i heq;simp at heq;done)|(unfold tT;(repeat' split)<;>first|trivial|exact⟨sM,om⟩)
   all_goals simpa|_=>exact h
 |_=>exact h
theorem Ol(hA:∀o t x y t',op≠.binOp o t x y t')(hN:∀x b,op≠.next x b)(hc:∀f az ts,op≠.call ⟨.value f,az,ts⟩):ff P c nt n0 4 d op K fx fx e I=fe P c nt d op K fx fx e I:=by
 show gx P c nt n0 4 d op K e I=jX P c nt d op K e I;have h1:CR (wD P d e I op)=false:=by grind[wD,SX,yo]
 have h2:kf n0 4 I (wD P d e I op):=by grind[wD,xn4,Oj]
 unfold gx jX;grind
theorem Lr(hA:∀o t x y t',op≠.binOp o t x y t')(hN:∀x b,op≠.next x b)(_:∀e I,iM P e I op=cx P e I op)(hc:∀f az ts,op≠.call ⟨.value f,az,ts⟩):ff P c nt n0 4 d op K fx fx e I=fe P c nt d op K fx fx e I:=Ol hA hN hc
theorem II(hA:∀o t x y t',op≠.binOp o t x y t')(hL:∀e I,iM P e I op=cx P e I op)(h2:kf n0 3 I (cx P e I op))(hc:∀f az ts,op≠.call ⟨.value f,az,ts⟩):ff P c nt n0 3 d op K fx fx e I=fe P c nt d op K fx fx e I:=by
 show gx P c nt n0 3 d op K e I=jX P c nt d op K e I;have hh:cZ P d e op:=.inr hL;unfold gx jX;split;.grind
 .split;.grind
  grind[rM,yo]
def Kp.out(k:Kp)(id:Nat):Bool:=(decide (id<k.x)&&k.ob.isNone)||decide (k.n<=id)
@[go_sem]theorem Kp.Ls{id:Nat}:(Kp.mk 0 n [] none).out id=decide (n<=id):=by rfl
@[go_sem]theorem Kp.Lt{x id:Nat}:(Kp.mk (x+1) n [] none).out id=(decide (id<x+1)||decide (n<=id)):=by simp[Kp.out]
def oc(n0:Kp):V->Bool|.ptr id _=>n0.out id|.jk id _ _ _ _=>n0.out id|_=>false
attribute [go_sem] oc
@[go_sem]theorem CT(h:oc n0 (zI e x)):ff P c nt n0 3 d (.store t x y) K fx fx e I=fe P c nt d (.store t x y) K fx fx e I:=II sM (λ_ _=>rfl) (by
  simp only[cx];unfold vI;split;.rename_i id off hx;rw[hx]at h;have h:n0.out id:=h;simp only[Kp.out,Ch,Aa,Option.isNone_iff_eq_none,alw]at h;(repeat' split)<;>first|trivial|exact⟨sM,λ_=>.inr (Kp.jq h)⟩
  .rename_i id s n k j hx;rw[hx]at h;have h:n0.out id:=h;simp only[Kp.out,Ch,Aa,Option.isNone_iff_eq_none,alw]at h;(repeat' split)<;>first|trivial|exact⟨sM,λ_=>.inr (Kp.jq h)⟩
  trivial) sM
@[go_sem]theorem G2:ff P c nt n0 0 d (.move x) K fx fx e I=fe P c nt d (.move x) K fx fx e I:=ur sM (λ_ _=>rfl) rfl sM
@[go_sem]theorem CU:ff P c nt n0 0 d (.assign x) K fx fx e I=fe P c nt d (.assign x) K fx fx e I:=ur sM (λ_ _=>rfl) rfl sM
@[go_sem]theorem G3{z:Operand}:ff P c nt n0 0 d (.pick x y z) K fx fx e I=fe P c nt d (.pick x y z) K fx fx e I:=ur sM (λ_ _=>rfl) rfl sM
@[go_sem]theorem Fa{l:Array (Nat×Operand)}:ff P c nt n0 0 d (.build t l) K fx fx e I=fe P c nt d (.build t l) K fx fx e I:=ur sM (λ_ _=>rfl) rfl sM
@[go_sem]theorem td{l:Array (Nat×Operand)}:ff P c nt n0 0 d (.buildSlice t n l) K fx fx e I=uj (cZ P d e (.buildSlice t n l)) (fe P c nt d (.buildSlice t n l) K fx fx e I) fx:=Oh sM rfl sM
@[go_sem]theorem IJ:ff P c nt n0 0 d (.nilCheck x) K fx fx e I=fe P c nt d (.nilCheck x) K fx fx e I:=ur sM (λ_ _=>rfl) rfl sM
theorem xL5{op:BinOp}{t':TypeId}:ff P c nt n0 0 d (.binOp op t x y t') K fx fx e I=uj (CR (wh (qR y) (xu op (jl P t) (zI e x)) (wh (sY y) (BK op (nY P t) (zI e x)) (nG op (jl P t) (kZ P t) (zI e x) (zI e y))))=false) (fe P c nt d (.binOp op t x y t') K fx fx e I) fx:=by show gx P c nt n0 0 d (.binOp op t x y t') K e I=(CR (cx P e I (.binOp op t x y t'))=false/\jX P c nt d (.binOp op t x y t') K e I);have hh:cZ P d e (.binOp op t x y t'):=.inr λ_ _=>rfl;grind[G1,CS,gx,jX,rM,mE]
attribute [go_sem] xL5 CR
@[go_sem]theorem Lu{op:UnOp}:ff P c nt n0 0 d (.unOp op t x) K fx fx e I=fe P c nt d (.unOp op t x) K fx fx e I:=ur sM (λ_ _=>rfl) rfl sM
@[go_sem]theorem G4{t':TypeId}:ff P c nt n0 0 d (.convert t t' x) K fx fx e I=uj (cZ P d e (.convert t t' x)) (fe P c nt d (.convert t t' x) K fx fx e I) fx:=Oh sM rfl sM
@[go_sem]theorem Fb{lo hi mx:Option Operand}:ff P c nt n0 0 d (.slice t x lo hi mx) K fx fx e I=uj (cZ P d e (.slice t x lo hi mx)) (fe P c nt d (.slice t x lo hi mx) K fx fx e I) fx:=Oh sM rfl sM
@[go_sem]theorem uu{f:Nat}:ff P c nt n0 0 d (.fieldAddr t x f) K fx fx e I=fe P c nt d (.fieldAddr t x f) K fx fx e I:=ur sM (λ_ _=>rfl) rfl sM
@[go_sem]theorem yp{i:Operand}:ff P c nt n0 0 d (.indexAddr t x i) K fx fx e I=fe P c nt d (.indexAddr t x i) K fx fx e I:=ur sM (λ_ _=>rfl) rfl sM
@[go_sem]theorem IK{i:Operand}:ff P c nt n0 0 d (.index t x i) K fx fx e I=fe P c nt d (.index t x i) K fx fx e I:=ur sM (λ_ _=>rfl) rfl sM
@[go_sem]theorem yq:ff P c nt n0 0 d (.extract x i) K fx fx e I=fe P c nt d (.extract x i) K fx fx e I:=ur sM (λ_ _=>rfl) rfl sM
@[go_sem]theorem IL{l:Array Operand}:ff P c nt n0 0 d (.call ⟨.builtin .len,l,ts⟩) K fx fx e I=fe P c nt d (.call ⟨.builtin .len,l,ts⟩) K fx fx e I:=ur sM (λ_ _=>rfl) rfl sM
@[go_sem]theorem Fc:ff P c nt n0 4 d (.store t x y) K fx fx e I=fe P c nt d (.store t x y) K fx fx e I:=Lr sM sM (λ_ _=>rfl) sM
@[go_sem]theorem CV{l:Array Operand}:ff P c nt n0 4 d (.call ⟨.builtin .append,l,ts⟩) K fx fx e I=fe P c nt d (.call ⟨.builtin .append,l,ts⟩) K fx fx e I:=(by simp[Ol])
@[go_sem]theorem Fe:ff P c nt n0 3 d (.alloc t) K fx fx e I=fe P c nt d (.alloc t) K fx fx e I:=II sM (λ_ _=>rfl) (by simp only[cx];unfold sW;split<;>first|trivial|exact⟨sM,λ_=>.inl ⟨_,rfl⟩⟩) sM
attribute [go_sem] xp4 xp5
@[go_sem]theorem G5{f:Operand}{l:List Operand}:ff P c nt n0 k d (.call ⟨.value f,l.toArray,ts⟩) K fx fx e I=qS P c n0 k (zI e f) (l.map (zI e)) I (N7 nt d K fx e) fx:=id rfl
attribute [go_sem] mE
theorem wW{args:List V}{v:V}(hc:Pure P f ct v)(hb:xI P f)(aa:∀N,bP (cW (cO [] N)) ct (args++cd))(hn:gY v)(hk:KV v I):qS P c n0 0 (.fn f cd) args I KV fx:=by refine⟨v,I,?_,λ_=>rfl,om,om,hk⟩;rw[alq rfl];exactλs=>zL (P:=P) (c:=c) (KV:=λr s'=>r=v/\s'=s) hc hb (aa _) hn sM
theorem G6{dz:alX}{I:St}:(yY dz I s1).length=I.length+(s1.length-dz.length):=by grind[yY,n4]
theorem SY{args:List V}{fM:St}{v:V}(hc:bN P f ct fM (λr s=>r=v/\s=s1))(hb:xI P f)(dz:alX)(ab:dz.Nodup)(hlen:fM.length=dz.length)(ad:∀(i j:Nat)(o:Ob),dz[i]?=some j->fM[i]?=some o->I[j]?=some (yC (cO dz I.length) o))(aa:bP (cW (cO dz I.length)) ct (args++cd))(hk:KV (dL (cO dz I.length) v) (yY dz I s1)):qS P c n0 4 (.fn f cd) args I KV fx:=by refine⟨_,_,?_,om,om,by grind[G6],hk⟩;rw[alp dC,alp dC];refine VC.of hc hb dz ab hlen ad aa ?_;simp
theorem G7{args:List V}{fM:St}{v:V}(hc:bN P f ct fM (λr s=>r=v/\s=s1))(hb:xI P f)(dz:alX)(ab:dz.Nodup)(hlen:fM.length=dz.length)(ad:∀(i j:Nat)(o:Ob),dz[i]?=some j->fM[i]?=some o->I[j]?=some (yC (cO dz I.length) o))(aa:bP (cW (cO dz I.length)) ct (args++cd))(ae:iv n0 I (yY dz I s1))(hk:KV (dL (cO dz I.length) v) (yY dz I s1)):qS P c n0 3 (.fn f cd) args I KV fx:=by refine⟨_,_,?_,om,(by grind),by grind[G6],hk⟩;rw[alp dC,alp dC];refine VC.of hc hb dz ab hlen ad aa ?_;simp
theorem G8{args:List V}{v:V}(hc:bN P f ct [] (λr s=>r=v/\s=s1))(hb:xI P f)(aa:bP (cW (cO [] I.length)) ct (args++cd))(hk:KV (dL (cO [] I.length) v) (I++s1.map (yC (cO [] I.length)))):qS P c n0 3 (.fn f cd) args I KV fx:=by
 have e:yY [] I s1=I++s1.map (yC (cO [] I.length)):=by rfl
 exact G7 hc hb [] Bo rfl sM aa (.inl ⟨_,e⟩) (by grind)
theorem we0{args:List V}{v:V}(hc:Pure P f ct v)(hb:xI P f)(hf:∀s,n0.of s=n0.of I->∃aa I1,pf (args++cd) s aa I1/\bP (cW (cO [] I1.length)) ct aa)(ab:Im v)(hk:KV v I):qS P c n0 1 (.fn f cd) args I KV fx:=by refine⟨v,I,?_,λ_=>rfl,om,om,hk⟩;rw[alp dC,alq rfl];intro s hs;obtain⟨aa,I1,h1,h2⟩:=hf s hs;exact VC.view hc hb h1 h2 (by grind) sM
end
def At(n0:Nat)(keep:alX)(vs:List V)(s:St)(e:Env)(I:St):Prop:=∃pick,gT n0 pick I s/\bP (cW (cO pick I.length)) vs (keep.map e)
def Next{S:Type}(p:S->Prop)(_:Fx p):Prop:=∃s,p s
theorem zH{S:Type}{p:S->Prop}(s:S)(h:p s):Next p fx:=⟨s,h⟩
section
variable{P:Program}{c:Ctx}{nt:Nat}{e:Env}{I:St}{a:Act}{w:World}{L:Nat->Nat}{J:alY}{Q:QT}{n0:Nat}
variable{keep:alX}{vs:List V}{y:Code}{f:FuncId}{code:Code}{x:Code}{fn:Func}{rs:List ResultVar}{cd:List V}{ct:List V}{KV:V->St->Prop}
theorem zA(h:pg P c nt code Q fx fx e I):gV P c nt code Q fx fx e I:=sZ code Q e I h
theorem Lv{K:KT}(h:gV P c nt x (BR K Q fx fx) fx fx e I)(hy:∀e' I',K e' I'->gV P c nt y Q fx fx e' I'):gV P c nt (.seq x y) Q fx fx e I:=by intro a w L J hs;refine wp_seq (wp_mono (h a w L J hs) λex a' w' q=>?_);cases ex with |normal=>obtain⟨e',I',L',J',aa,hq⟩:=q;exact hy e' I' hq a' w' L' J' aa|exit id=>exact q|goto l=>exact q|ret=>exact q|panic ch=>exact q|outgrown=>exact q
theorem zN(h:gV P c nt x (BR (gV P c nt y Q fx fx) Q fx fx) fx fx e I):gV P c nt (.seq x y) Q fx fx e I:=(by grind[Lv])
theorem yt{id:Nat}{b:Code}(h:gV P c nt b (rK id Q fx) fx fx e I):gV P c nt (.block id b) Q fx fx e I:=by intro a w L J hs;refine wp_block (wp_mono (h a w L J hs) λex a' w' q=>?_);cases ex with
 |exit aa=>
  obtain⟨e',I',L',J',ab,hq⟩:=q;change(if aa=id then Q .normal e' I' else Q (.exit aa) e' I')at hq;change(if aa=id then fY c nt Q .normal a' w' else fY c nt Q (.exit aa) a' w');split;.rename_i hid;rw[alq hid]at hq;exact⟨e',I',L',J',ab,hq⟩
  .rename_i hid;rw[alp hid]at hq;exact⟨e',I',L',J',ab,hq⟩|normal=>exact q|goto l=>exact q|ret=>exact q|panic ch=>exact q|outgrown=>exact q
theorem Lw{b:Bool}{x:Operand}{t f:Code}(hx:zI e x=.bool b)(ht:b=true->gV P c nt t Q fx fx e I)(hf:b=false->gV P c nt f Q fx fx e I):gV P c nt (.cond x t f) Q fx fx e I:=by intro a w L J hs;have hv:=hs.eval x;rw[hx]at hv;exact wp_cond_split (qQ hv) (λh=>ht h a w L J hs) (λh=>hf h a w L J hs)
theorem wC4{s:St}(hn:c.cD.length=n0)(hc:c.β0.length=c.cD.length)(hk:At n0 keep vs s e I)(hy:gV P c nt y Q fx fx (n9 (keep.zip vs)) s):gV P c nt y Q fx fx e I:=by intro a w L J hs;subst hn;obtain⟨pick,hp,aa⟩:=hk;obtain⟨iA,s',J',⟨rfl,rfl⟩,_,ab⟩:=N6 (Inv:=λiA s' _=>iA=vs/\s'=s) (m:=0) hs hc ⟨vs,s,pick,hp,aa,rfl,rfl⟩;exact hy a w L J' ab
theorem nK{S:Type}(keep:alX)(aa:S->List V)(ab:S->St)(uU:S->Prop)(hn:c.cD.length=n0)(hc:c.β0.length=c.cD.length)(hx:gV P c nt x (BR (λe' I'=>Next (λs=>uU s/\At n0 keep (aa s) (ab s) e' I') fx) Q fx fx) fx fx e I)(hy:∀s,uU s->gV P c nt y Q fx fx (n9 (keep.zip (aa s))) (ab s)):gV P c nt (.seq x y) Q fx fx e I:=Lv hx λ_ _⟨s,hI,ad⟩=>(by grind[wC4])
theorem zG{body:Code}{S:Type}(keep:alX)(aa:S->List V)(ad:S->St)(ab:S->Nat)(uU:S->Prop)(hn:c.cD.length=n0)(hc:c.β0.length=c.cD.length)(s0:S)(hI:uU s0)(h0:At n0 keep (aa s0) (ad s0) e I)(hr:∀s,uU s->gV P c nt body (BR (λe' I'=>Next (λs'=>ab s'<ab s/\uU s'/\At n0 keep (aa s') (ad s') e' I') fx) Q fx fx) fx fx (n9 (keep.zip (aa s))) (ad s)):gV P c nt (.loop body) Q fx fx e I:=by
 subst hn;intro a w L J hs;refine SN (λm a w=>∃s L J,m=ab s/\uU s/\ez c nt (n9 (keep.zip (aa s))) (ad s) a w L J) (ab s0) ?_ ?_;.obtain⟨pick,hp,ae⟩:=h0;obtain⟨iA,s',J',⟨rfl,rfl⟩,_,af⟩:=N6 (Inv:=λiA s' _=>iA=aa s0/\s'=ad s0) (m:=0) hs hc ⟨_,_,pick,hp,ae,rfl,rfl⟩;grind
 .rintro m a w ⟨s,L,J,rfl,ah,hs⟩;refine wp_mono (hr s ah a w L J hs) λx a' w' q=>?_;cases x with |normal=>obtain⟨e',I',L',J',af,s',ai,aj,pick,hp,ae⟩:=q;obtain⟨iA,s2,J2,⟨rfl,rfl⟩,_,ak⟩:=N6 (Inv:=λiA s2 _=>iA=aa s'/\s2=ad s') (m:=0) af hc ⟨_,_,pick,hp,ae,rfl,rfl⟩;exact⟨ab s',ai,s',L',J2,rfl,aj,ak⟩|exit id=>exact q|goto l=>exact q|ret=>exact q|panic ch=>exact q|outgrown=>exact q
theorem zR{ρ:Nat->Nat}{l m:List V}(h:l=m)(hn:l.all gY):bP (cW ρ) l m:=by grind[yD]
theorem tf{n N:Nat}:∀{l:List V},l.all (hZ n)=true->bP (cW (cO (List.range n) N)) l l
 |[],_=>trivial|v::l,h=>by simp only[Az,Aa]at h;exact⟨xR h.1,tf h.2⟩
theorem zD{n N:Nat}{l m:List V}(h:l=m)(hn:l.all (hZ n)):bP (cW (cO (List.range n) N)) l m:=by grind[tf]
theorem gC{SZ:Nat}(hN:I.length=SZ)(h:bP (cW (cO [] SZ)) vs (keep.map e)):At 0 keep vs [] e I:=by subst hN;exact⟨[],⟨rfl,Bo,sM,om⟩,h⟩
theorem bU(k:Nat){s:St}(hs:I.take k=s)(hk:s.length=k)(cZ:s.all (bS k))(hn:n0<=k)(h:bP (cW (cO (List.range k) I.length)) vs (keep.map e)):At n0 keep vs s e I:=by subst hs;have h1:I.take k++I.drop k=I:=sM;have hp:=SQ (n0:=n0) (s:=I.take k) (loc:=I.drop k) (by rw[hk];exact cZ) (by rw[hk];exact hn);rw[h1,hk]at hp;exact⟨_,hp,h⟩
theorem yu(pick:alX){s:St}(ab:pick.Nodup)(hn:n0=0)(aa:bP (λo j=>I[j]?=some (yC (cO pick I.length) o)) s pick)(h:bP (cW (cO pick I.length)) vs (keep.map e)):At n0 keep vs s e I:=by subst hn;refine⟨pick,⟨aa.length,ab,λi j o hi ho=>?_,om⟩,h⟩;obtain⟨j',ad,hr⟩:=aa.get i o ho;grind
theorem bN.iN{nt:Nat}{args:List V}{R:V->St->Prop}(n0:Nat)(hf:P.funcs[f]?=some fn)(aa:fn.ntmps=nt)(ab:fn.results=rs.toArray)(hb:fn.body=some code)(h0:I.length=n0)(ad:args.length<=nt)(h:∀c:Ctx,c.cD.length=n0->c.β0.length=c.cD.length->gV P c nt code (mT P rs n0 R) fx fx (kJ 0 args) I):bN P f args I R:=bN.pM n0 hf aa ab hb h0 ad h
theorem tg(t:Nat)(hn:nt<=100000)(hy:gV P c nt y Q fx fx (ft e (100000+t) (.cC [])) I):gV P c nt y Q fx fx e I:=by
 intro a w L J hs;refine hy a w L J ⟨hs.mem,hs.size,hs.defs,λk=>?_⟩;simp only[ft];split
 .rename_i hk;subst hk;refine⟨[],?_,tV⟩;have:¬(100000+t<a.tmps.size):=by rw[hs.size];omega
  simp[Array.getD,this,undef]
 .exact hs.env k
theorem CW(id s:Nat)(rows:List (List V))(cP:I[id]?=some (.cv rows s))(hp:xB rows)(hy:gV P c nt y Q fx fx (λt=>fO id rows (e t)) (jG id rows I)):gV P c nt y Q fx fx e I:=by intro a w L J hs;obtain⟨h1,h2,h3,h4⟩:=SB hs.mem cP hp;exact hy a w _ J ⟨h1,hs.size,hs.defs,λt=>h4 _ _ (hs.env t)⟩
theorem Om{args ab:List V}{v:V}{I1:St}(hc:Pure P f ct v)(hb:xI P f)(hf:pf (args++cd) I ab I1)(aa:bP (cW (cO [] I1.length)) ct ab)(ad:Im v)(hk:KV v I):jn P c (.fn f cd) args I KV fx:=VC.view hc hb hf aa (by grind) (by grind)
attribute [go_sem] fO fX fN fH mP jG
attribute[go_sem]E4 List.zip_nil_left List.zip_nil_right
theorem iV{nt:Nat}{args:List V}{R:V->St->Prop}(n0:Nat)(hf:P.funcs[f]?=some fn)(aa:fn.ntmps=nt)(ab:fn.results=rs.toArray)(h:∀c:Ctx,c.cD.length=n0->c.β0.length=c.cD.length->gV P c nt code (mT P rs n0 R) fx fx (kJ 0 args) I)(hb:fn.body=some code:=by rfl)(h0:I.length=n0:=by rfl)(ad:args.length<=nt:=by exact Ca rfl):bN P f args I R:=(by simp_all[bN.iN])
theorem iW{nt:Nat}{args:List V}{R:V->St->Prop}(n0:Nat)(hf:P.funcs[f]?=some fn)(aa:fn.ntmps=nt)(ab:fn.results=rs.toArray)(h:∀c:Ctx,c.cD.length=n0->c.β0.length=c.cD.length->rH P c nt code (mT P rs n0 R) (kJ 0 args) I)(hb:fn.body=some code:=by rfl)(h0:I.length=n0:=by rfl)(ad:args.length<=nt:=by exact Ca rfl):bN P f args I R:=(by simp_all[bN.intro])
theorem aN(k:Nat){s:St}(cZ:s.all (bS k))(hs:I.take k=s:=by simp[go_sem])(hk:s.length=k:=by rfl)(hn:n0<=k:=by omega)(h:vs=keep.map e:=by simp[go_sem])(hv:vs.all (hZ k)=true:=by rfl):At n0 keep vs s e I:=(by grind[bU,zD])
theorem aM(k:Nat){s:St}(cZ:s.all (bS k))(h:bP (cW (cO (List.range k) I.length)) vs (keep.map e))(hs:I.take k=s:=by simp[go_sem])(hk:s.length=k:=by rfl)(hn:n0<=k:=by omega):At n0 keep vs s e I:=(by grind[bU])
theorem aO(h:vs=keep.map e:=by simp[go_sem])(hv:vs.all gY=true:=by rfl):At 0 keep vs [] e I:=gC rfl (zR h hv)
theorem pC{args:List V}{v:V}(hc:Pure P f ct v)(hk:KV v I)(aa:bP (cW (cO [] I.length)) ct (args++cd):=by first|exact yD rfl|exact⟨zK,yD rfl⟩|exact⟨zK,zK,yD rfl⟩|exact⟨zC rfl,zK,yD rfl⟩|exact⟨zK,zK,zK,yD rfl⟩|exact⟨zK,zC rfl,zK,yD rfl⟩|exact⟨zC rfl,zK,zK,yD rfl⟩|exact⟨zC rfl,zC rfl,zK,yD rfl⟩|exact⟨zK,zK,zK,zK,yD rfl⟩|exact⟨zK,zK,zC rfl,zK,yD rfl⟩|exact⟨zK,zC rfl,zK,zK,yD rfl⟩|exact⟨zK,zC rfl,zC rfl,zK,yD rfl⟩|exact⟨zC rfl,zK,zK,zK,yD rfl⟩|exact⟨zC rfl,zK,zC rfl,zK,yD rfl⟩|exact⟨zC rfl,zC rfl,zK,zK,yD rfl⟩|exact⟨zC rfl,zC rfl,zC rfl,zK,yD rfl⟩)(hb:xI P f=true:=by kernel_rfl)(hn:gY v=true:=by rfl):jn P c (.fn f cd) args I KV fx:=(by grind[zL])
theorem pD{n0:Kp}{args:List V}{v:V}(hc:Pure P f ct v)(hk:KV v I)(aa:∀N,bP (cW (cO [] N)) ct (args++cd):=by first|exactλ_=>yD rfl|exactλ_=>⟨zK,yD rfl⟩|exactλ_=>⟨zK,zK,yD rfl⟩|exactλ_=>⟨zC rfl,zK,yD rfl⟩|exactλ_=>⟨zK,zK,zK,yD rfl⟩|exactλ_=>⟨zK,zC rfl,zK,yD rfl⟩|exactλ_=>⟨zC rfl,zK,zK,yD rfl⟩|exactλ_=>⟨zC rfl,zC rfl,zK,yD rfl⟩|exactλ_=>⟨zK,zK,zK,zK,yD rfl⟩|exactλ_=>⟨zK,zK,zC rfl,zK,yD rfl⟩|exactλ_=>⟨zK,zC rfl,zK,zK,yD rfl⟩|exactλ_=>⟨zK,zC rfl,zC rfl,zK,yD rfl⟩|exactλ_=>⟨zC rfl,zK,zK,zK,yD rfl⟩|exactλ_=>⟨zC rfl,zK,zC rfl,zK,yD rfl⟩|exactλ_=>⟨zC rfl,zC rfl,zK,zK,yD rfl⟩|exactλ_=>⟨zC rfl,zC rfl,zC rfl,zK,yD rfl⟩)(hb:xI P f=true:=by kernel_rfl)(hn:gY v=true:=by rfl):qS P c n0 0 (.fn f cd) args I KV fx:=(by grind[wW])
theorem wR{R:V->St->Prop}{v r:V}(hr:cW (cO [] I.length) r v:=by exact zC rfl)(hR:R r []:=by exact⟨rfl,rfl⟩):cz (some v) 0 R I:=zQ hr hR
end
end Go.Vx
