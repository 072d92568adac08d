/-
  Walks with cuts: a statement's end held by the slots that are read later, what follows proved once.
  No condition: a library text; nothing of the program is named.
-/
import Derived.Test.YtefbicjgbaaieaaGreatLAC
import Derived.Orders
set_option maxHeartbeats 8000000
namespace Go.Vx
open Go
section
variable{P:Program}{c:Ctx}{nt:Nat}{e:Env}{U:St}{a:Act}{w:World}{L:Nat->Nat}{I:ail}
variable {fn:Func}{code:Code}
def kh:Nat->List V->Env|_,[]=>kO|i,v::vs=>fe (kh (i+1) vs) i v
theorem LO:∀(vs:List V)(i t:Nat),kh i vs (i+t)=vs.getD t .u
 |[],_,_=>by rfl|v::vs,i,0=>by simp[kh,fe]|v::vs,i,t+1=>by simp only[kh,fe];rw[ahO om];have:=LO vs (i+1) t;grind
def EW(P:Program)(e:Env)(U:St):ResultVar->Option V |.tmp t=>some (e t)|.cell t T=>(match nx P T U (e t)with|.ok v=>some v|_=>none)
def CF(P:Program)(e:Env)(U:St):List ResultVar->Option (List V) |[]=>some []|r::rs=>(match EW P e U r,CF P e U rs with|some v,some vs=>if nu v=true then some (v::vs)else none|_,_=>none)
def mC(P:Program)(rs:List ResultVar)(e:Env)(U:St):Option V:=match rs with |[r]=>EW P e U r|rs=>(CF P e U rs).map .cm
def ta(a:Act):ResultVar->Sem Value |.tmp t=>pure (a.tmps.getD t undef)|.cell t T=>do loadVar T (<-asAddr (a.tmps.getD t undef))
theorem X6(fn:Func)(a:Act):results fn a.tmps=(do let vs<-fn.results.mapM (ta a);pure (if h:vs.size=1then vs[0]else .tuple vs)):=by rfl
theorem Qq(h:dM c nt e U a w L I){r:ResultVar}{v:V}(hv:EW P e U r=some v):∃x,(ta a r).run P w=.ok x w/\dj w L U I v x:=by cases r with |tmp t=>simp only[EW,ahT]at hv;subst hv;exact⟨_,rfl,h.env t⟩|cell t T=>
  simp only[EW]at hv;split at hv;.rename_i v' hl;simp only[ahT]at hv;subst hv;obtain⟨bl,off,z,hy,hz,r⟩:=PG (P:=P) T h.mem (h.env t) hl;grind[ta,asAddr]
  grind
theorem Qr(h:dM c nt e U a w L I):∀(rs:List ResultVar)(vs:List V),CF P e U rs=some vs->∃xs:ail,(rs.mapM (ta a)).run P w=.ok xs w/\bM (dT w L U I) vs xs/\xs.length=rs.length
 |[],vs,hv=>by simp only[CF,ahT]at hv;subst hv;exact⟨[],rfl,tV,rfl⟩|r::rs,vs,hv=>by
  simp only[CF]at hv;split at hv
  .rename_i v gP h1 h2;split at hv;.rename_i hh;simp only[ahT]at hv;subst hv;obtain⟨x,hx,hr⟩:=Qq (P:=P) h h1;obtain⟨xs,aa,ab,hl⟩:=Qr h rs gP h2;refine⟨x::xs,?_,⟨EN hr hh,ab⟩,by simp[hl]⟩;rw[List.mapM_cons];simp only[Sem.run_bind,hx,Result.andThen_ok,aa,Sem.run_pure]
   .cases hv
  .cases hv
theorem X7(h:dM c nt e U a w L I){v:V}(hv:mC P fn.results.toList e U=some v):∃x,(results fn a.tmps).run P w=.ok x w/\dj w L U I v x:=by
 have ab:∀xs:ail,(fn.results.toList.mapM (ta a)).run P w=.ok xs w->(results fn a.tmps).run P w=.ok (if hs:xs.toArray.size=1then xs.toArray[0]else .tuple xs.toArray) w:=by grind[X6,Array.mapM_eq_mapM_toList,Sem.run_bind,Sem.run_map,Result.andThen_ok,Sem.run_pure]
 unfold mC at hv;split at hv;.rename_i r hr;obtain⟨x,hx,ad⟩:=Qq (P:=P) h hv;simp_all
 .rename_i rs ae;cases ha:CF P e U fn.results.toList with |none=>grind|some vs=>
   rw[ha]at hv;simp only[Bi,ahT]at hv;subst hv;obtain⟨xs,af,aa,hl⟩:=Qr (P:=P) h _ _ ha;refine⟨.tuple xs.toArray,?_,xs,rfl,aa⟩;have hn:¬xs.toArray.size=1:=by intro q;simp only[List.size_toArray]at q;rw[hl]at q;obtain⟨r,hr⟩:=List.length_eq_one_iff.1 q;grind
   grind
def qE(n0:Nat)(R:V->St->Prop)(v:V)(U:St):Prop:=∃v1 U1 pick U' r,oE [v] U [v1] U1/\gy n0 pick U1 U'/\cR (cO pick U1.length) r v1/\R r U'
def mD(P:Program)(rs:List ResultVar)(n0:Nat)(R:V->St->Prop):Exit->Env->St->Prop|.normal,e,U|.ret,e,U=>∃v,mC P rs e U=some v/\qE n0 R v U|_,_,_=>False
theorem bL.oW{f:FuncId}{nt:Nat}{rs:List ResultVar}{args:List V}{U:St}{R:V->St->Prop}(n0:Nat)(hf:P.funcs[f]?=some fn)(af:fn.ntmps=nt)(ad:fn.results=rs.toArray)(hb:fn.body=some code)(h0:U.length=n0)(al:args.length<=nt)(h:∀c:Ctx,c.cd.length=n0->c.β0.length=c.cd.length->VW P c nt code (mD P rs n0 R) (kh 0 args) U):bL P f args U R:=by
 subst af;subst h0;have ad:fn.results.toList=rs:=by rw[ad]
 subst ad;intro w L I aa hm ha;have hlen:=ha.length;refine calls_of_wp hf hb ?_;have ae:dM (entry w L U I) fn.ntmps (kh 0 args) U {tmps:=aa.toArray++Array.replicate (fn.ntmps-aa.toArray.size) undef,defers:=[]} w L I:=by
  refine⟨hm,by grind,rfl,λt=>?_⟩;have e1:=LO args 0 t;rw[Ab]at e1;rw[e1];by_cases ht:t<args.length
  .obtain⟨x,hx,r⟩:=ha.get t _ (A0 ht);have:(aa.toArray++Array.replicate (fn.ntmps-aa.toArray.size) undef).getD t undef=x:=by rw[Array.getD_eq_getD_getElem?,Dl (by grind)];grind
   grind
  .rw[A9,Cq om];trivial
 refine wp_mono (h (entry w L U I) rfl hm.len _ w L I ae) λx a' w' q=>?_;have fin:∀{x:Exit},(x=.normal\/x=.ret)->fo (entry w L U I) fn.ntmps (mD P fn.results.toList U.length R) x a' w'->a'.defers=[]/\∃v,(results fn a'.tmps).run P w'=.ok v w'/\∃v' r L' U' I',Ending.returned v=Ending.returned v'/\R r U'/\U.length<=U'.length/\Mem (entry w L U I) w' L' U' I'/\dj w' L' U' I' r v':=by
  intro x hx q;have hq:∃e' U' L' I',dM (entry w L U I) fn.ntmps e' U' a' w' L' I'/\∃v,mC P fn.results.toList e' U'=some v/\qE U.length R v U':=by rcases hx with rfl|rfl<;>exact q
  obtain⟨e',cd,an,I1,hs,v,hv,v1,U1,pick,U',r,ag,hp,ah,hR⟩:=hq;obtain⟨x,hx,ak⟩:=X7 (P:=P) hs hv;obtain⟨L',I2,ab,_,_,ai,_⟩:=ag.ok hs.mem (xs:=[x]) (by trivial);refine⟨hs.defs,x,hx,x,r,L',U',_,rfl,hR,?_,ab.pick hp hm.len,zf (hp.jm ab.len) ah ai⟩;rw[hp.len];rcases Ck pick.length U.length with aj|ao;.have:=(A5.1 (hp.id pick.length aj)).1;omega
  omega
 cases x with |normal=>exact fin (.inl rfl) q|ret=>exact fin (.inr rfl) q|exit id=>obtain⟨e',U',L',I',hs,hq⟩:=q;simpa|goto l=>simpa|panic ch=>trivial|outgrown=>trivial
theorem bL.intro{f:FuncId}{nt:Nat}{rs:List ResultVar}{args:List V}{U:St}{R:V->St->Prop}(n0:Nat)(hf:P.funcs[f]?=some fn)(aa:fn.ntmps=nt)(ab:fn.results=rs.toArray)(hb:fn.body=some code)(h0:U.length=n0)(ad:args.length<=nt)(h:∀c:Ctx,c.cd.length=n0->c.β0.length=c.cd.length->qC P c nt code (mD P rs n0 R) (kh 0 args) U):bL P f args U R:=bL.oW n0 hf aa ab hb h0 ad (by grind[rV])
theorem Qs{Q:Exit->Act->World->Prop}(uI:Nat->Act->World->Prop)(n:Nat)(LP:uI n a w)(round:∀n a w,uI n a w->code.wp P (Exit.then (λa' w'=>∃m,m<n/\uI m a' w') Q) a w):(Code.loop code).wp P Q a w:=by
 intro b k cs;have key:∀n a w,uI n a w->∃e a' w',Q e a' w'/\Arrives P (lone (b.at a (.code code::.inLoop code::k)) cs w) b k cs e a' w':=by intro n;induction n using Nat.strongRecOn with|_ n ih=>intro a w hI;obtain⟨e,qF,qG,hq,aa⟩:=round n a w hI b (.inLoop code::k) cs;cases e with |normal=>obtain⟨m,ad,ae⟩:=hq;obtain⟨LR,LS,LU,af,ab⟩:=ih m ad qF qG ae;exact⟨LR,LS,LU,af,.of_steps (Steps.trans aa (.one step_inLoop)) ab⟩|exit id=>exact⟨_,qF,qG,hq,(by simpa)⟩|goto l=>exact⟨_,qF,qG,hq,(by simpa)⟩|ret=>exact⟨_,qF,qG,hq,(by simpa)⟩|panic ch=>exact⟨_,qF,qG,hq,(by simpa)⟩|outgrown=>exact⟨_,qF,qG,hq,(by simpa)⟩
 obtain⟨e,a',w',hq,aa⟩:=key n a w LP;exact⟨e,a',w',hq,.of_steps (.one step_loop) aa⟩
def nC:List (Nat×V)->Env |[]=>kO|(t,v)::r=>fe (nC r) t v
def X8(n0:Nat)(keep:aik)(Inv:List V->St->Nat->Prop)(m:Nat)(e:Env)(U:St):Prop:=∃vs s pick,gy n0 pick U s/\bM (cR (cO pick U.length)) vs (keep.map e)/\Inv vs s m
theorem LV(h:dM c nt e U a w L I)(hc:c.β0.length=c.cd.length){keep:aik}{Inv:List V->St->Nat->Prop}{m:Nat}(hk:X8 c.cd.length keep Inv m e U):∃vs s I',Inv vs s m/\vs.length=keep.length/\dM c nt (nC (keep.zip vs)) s a w L I':=by obtain⟨vs,s,pick,hp,aa,hI⟩:=hk;have hl:=aa.length;simp at hl;refine⟨vs,s,_,hI,hl,h.mem.pick hp hc,h.size,h.defs,λt=>?_⟩;have hb:=hp.jm h.mem.len;clear hI;revert aa hl;generalize keep=kl;intro aa hl;induction kl generalizing vs with|nil=>trivial|cons q kl ih=>cases vs with|nil=>grind|cons v vs=>
   simp only[Dv,nC,fe];by_cases hq:t=q;.subst hq;rw[ahP rfl];exact zf hb aa.1 (h.env t)
   .rw[ahO hq];exact ih vs aa.2 (by grind)
end
def Fx.{v} {J:Sort v} (_:J):Type:=Unit
def fx.{v} {J:Sort v} {a:J}:Fx a:=()
abbrev KT:=Env->St->Prop
abbrev QT:=Exit->Env->St->Prop
def oF(P:Program)(c:Ctx)(nt:Nat)(code:Code)(Q:QT)(_:Fx code)(_:Fx Q)(e:Env)(U:St):Prop:=qC P c nt code Q e U
def mE(P:Program)(c:Ctx)(nt:Nat)(ops l:List Oper)(K:KT)(_:Fx ops)(_:Fx l)(_:Fx K)(e:Env)(U:St):Prop:=kg P c nt ops l K e U
def ef(P:Program)(c:Ctx)(nt:Nat)(d:Option Tmp)(op:Op)(K:KT)(_:Fx op)(_:Fx K)(e:Env)(U:St):Prop:=jg P c nt d op K e U
def dN(nt:Nat)(d:Option Tmp)(r:R)(K:KT)(_:Fx K)(e:Env)(U:St):Prop:=mA nt d r K e U
def iQ(nt:Nat)(d:Option Tmp)(v:V)(K:KT)(_:Fx K)(e:Env)(U:St):Prop:=eV nt d v K e U
def tc (p q:Prop) (_:Fx q):Prop:=IV p q
def EX(x:V)(A B:Prop)(_:Fx A)(_:Fx B):Prop:=GS x A B
def kU(x:V)(want:Bool)(A B:Prop)(_:Fx A)(_:Fx B):Prop:=kT x want A B
def CG(t:Option Tmp)(want:Bool)(e:Env)(A B:Prop)(_:Fx A)(_:Fx B):Prop:=match t with|some t=>kT (e t) want A B|none=>False
def td(ops:List Oper)(_:Fx ops)(j:Nat):Option Tmp:=kf ops j
def zh(K:KT)(Q:QT)(_:Fx K)(_:Fx Q)(x:Exit)(e:Env)(U:St):Prop:=LN K Q x e U
def qH(id:Nat)(Q:QT)(_:Fx Q)(x:Exit)(e:Env)(U:St):Prop:=CE id Q x e U
def ga(P:Program)(c:Ctx)(nt:Nat)(code:Code)(Q:QT)(_:Fx code)(_:Fx Q)(e:Env)(U:St):Prop:=VW P c nt code Q e U
def jE(P:Program)(c:Ctx)(fv:V)(az:List V)(U:St)(K:V->St->Prop)(_:Fx K):Prop:=VC P c fv az U K
def LW(nt:Nat)(d:Option Tmp)(K:KT)(_:Fx K)(e:Env)(v:V)(U:St):Prop:=eV nt d v K e U
section
variable{P:Program}{c:Ctx}{nt:Nat}{e:Env}{U:St}{K:KT}{Q:QT}{d:Option Tmp}
variable{x:Operand}{t:TypeId}{i:Nat}{A:Prop}{B:Prop}{op:BinOp}{b:Bool}{es:Option (List Pk)}{y:Operand}{l:List Operand}{want:Bool}{t':TypeId}{k:IntKind}{f:FuncId}{ops:List Oper}{ty:TypeId}{dU:Array Edge}{n:Int}{p:Prop}{ts:Array TypeId}{ek:Nat}
theorem zM{code:Code}(h:oF P c nt code Q fx fx e U):qC P c nt code Q e U:=h
@[go_sem]theorem CH:oF P c nt .skip Q fx fx e U=Q .normal e U:=id rfl
@[go_sem]theorem EY{x y:Code}:oF P c nt (.seq x y) Q fx fx e U=oF P c nt x (zh (oF P c nt y Q fx fx) Q fx fx) fx fx e U:=id rfl
@[go_sem]theorem CI{t f:Code}:oF P c nt (.cond x t f) Q fx fx e U=EX (zI e x) (oF P c nt t Q fx fx e U) (oF P c nt f Q fx fx e U) fx fx:=id rfl
@[go_sem]theorem zi{b:Code}:oF P c nt (.block i b) Q fx fx e U=oF P c nt b (qH i Q fx) fx fx e U:=id rfl
@[go_sem]theorem CJ:oF P c nt (.exit i) Q fx fx e U=Q (.exit i) e U:=id rfl
@[go_sem]theorem EZ:oF P c nt .ret Q fx fx e U=Q .ret e U:=id rfl
@[go_sem]theorem vK{l:List Oper}:oF P c nt (.region i l.toArray false) Q fx fx e U=mE P c nt l l (Q .normal) fx fx fx e U:=id rfl
@[go_sem]theorem CK{ops:Array Oper}:oF P c nt (.region i ops true) Q fx fx e U=ga P c nt (.region i ops true) Q fx fx e U:=id rfl
@[go_sem]theorem CL{b:Code}:oF P c nt (.loop b) Q fx fx e U=ga P c nt (.loop b) Q fx fx e U:=id rfl
@[go_sem]theorem vL:zh K Q fx fx .normal e U=K e U:=id rfl
@[go_sem]theorem E5:zh K Q fx fx .ret e U=Q .ret e U:=id rfl
@[go_sem]theorem CM:zh K Q fx fx (.exit i) e U=Q (.exit i) e U:=id rfl
@[go_sem]theorem zj:qH i Q fx .normal e U=Q .normal e U:=id rfl
@[go_sem]theorem GU:qH i Q fx .ret e U=Q .ret e U:=id rfl
@[go_sem]theorem E6:qH i Q fx (.exit i) e U=Q .normal e U:=by show(if i=i then _ else _)=_;simp
@[go_sem]theorem E7{j:Nat}:qH i Q fx (.exit j) e U=if j=i then Q .normal e U else Q (.exit j) e U:=id rfl
theorem xH{op:Op}(h1:gX P e U op=bZ P e U op)(h2:jg P c nt d op K e U=mA nt d (xP P d e U op) K e U):ef P c nt d op K fx fx e U=dN nt d (bZ P e U op) K fx e U:=by grind[ef,dN,xP]
def wh(b:Bool)(x y:R):R:=if b=true then x else y
@[go_sem]theorem X9{x y:R}:wh true x y=x:=rfl
@[go_sem]theorem Ya{x y:R}:wh false x y=y:=rfl
def LX:V->Bool |.cm []=>true|_=>false
@[go_sem]theorem zk{t:Nat}:l7 e (some t)=LX (e (100000+t)):=by rfl
@[go_sem]theorem zl:l7 e none=false:=rfl
@[go_sem]theorem GV:LX (.cm [])=true:=rfl
@[go_sem] theorem GW:LX .u=false:=rfl
@[go_sem]theorem LY{t:Nat}:kO t=.u:=rfl
@[go_sem]theorem GX:mE P c nt ops [] K fx fx fx e U=K e U:=id rfl
@[go_sem]theorem E8{rest:List Oper}{op:Op}{pos:String}:mE P c nt ops (⟨d,op,ty,pos,dU,none⟩::rest) K fx fx fx e U=ef P c nt d op (mE P c nt ops rest K fx fx fx) fx fx e U:=id rfl
@[go_sem]theorem CN{rest:List Oper}{op:Op}{pos:String}{j:Nat}:mE P c nt ops (⟨d,op,ty,pos,dU,some (j,want)⟩::rest) K fx fx fx e U=CG (td ops fx j) want e (ef P c nt d op (mE P c nt ops rest K fx fx fx) fx fx e U) (iQ nt d (.cm []) (mE P c nt ops rest K fx fx fx) fx e U) fx fx:=id rfl
@[go_sem]theorem E9{t:Tmp}:CG (some t) want e A B fx fx=kU (e t) want A B fx fx:=id rfl
@[go_sem]theorem Fa{d:Option Tmp}{op:Op}{pos:String}{g:Option (Nat×Bool)}{l:List Oper}:td (⟨d,op,ty,pos,dU,g⟩::l) fx 0=d:=id rfl
@[go_sem]theorem Fb{o:Oper}{l:List Oper}{n:Nat}:td (o::l) fx (n+1)=td l fx n:=by rfl
@[go_sem]theorem IY:kU (.bool true) true A B fx fx=A:=by grind[kU,kT]
@[go_sem]theorem IZ:kU (.bool false) false A B fx fx=A:=by grind[kU,kT]
@[go_sem]theorem I0:kU (.bool true) false A B fx fx=B:=by grind[kU,kT]
@[go_sem]theorem I4:kU (.bool false) true A B fx fx=B:=by grind[kU,kT]
@[go_sem]theorem I5:kU (.cm []) want A B fx fx=B:=by rfl
@[go_sem]theorem I6:EX (.bool true) A B fx fx=A:=by grind[EX,GS]
@[go_sem]theorem I7:EX (.bool false) A B fx fx=B:=by grind[EX,GS]
theorem zO(ha:b=true->A)(hb:b=false->B):EX (.bool b) A B fx fx:=⟨ha,hb⟩
theorem yA(ha:b=want->A)(hb:b=(!want)->B):kU (.bool b) want A B fx fx:=⟨ha,λh=>hb (by cases b<;>cases want<;>simp_all)⟩
theorem zF{q:Prop}(hp:p)(hq:q):tc p q fx:=⟨hp,hq⟩
@[go_sem]theorem I8{q:Prop}:tc True q fx=q:=by grind[tc,IV]
@[go_sem]theorem I9{v:V}:dN nt d (.ok v) K fx e U=iQ nt d v K fx e U:=id rfl
@[go_sem]theorem Fc{v:V}:dN nt d (.eF p v) K fx e U=tc p (iQ nt d v K fx e U) fx:=id rfl
@[go_sem]theorem Ja{v:V}{s:St}:dN nt d (.st v s) K fx e U=iQ nt d v K fx e s:=id rfl
@[go_sem]theorem zm{v:V}{s:St}:dN nt d (.dp p v s) K fx e U=tc p (iQ nt d v K fx e s) fx:=id rfl
@[go_sem]theorem Fe{t:Nat}{v:V}:iQ nt (some t) v K fx e U=(t<nt/\K (fe e t v) U):=id rfl
@[go_sem]theorem Ff{v:V}:iQ nt none v K fx e U=K e U:=id rfl
@[go_sem]theorem GY{v:V}:LW nt d K fx e v U=iQ nt d v K fx e U:=id rfl
@[go_sem]theorem GZ:ef P c nt d (.move x) K fx fx e U=iQ nt d (zI e x) K fx e U:=(xH rfl rfl).trans rfl
@[go_sem]theorem CO:ef P c nt d (.assign x) K fx fx e U=iQ nt d (zI e x) K fx e U:=(xH rfl rfl).trans rfl
@[go_sem]theorem G0{z:Operand}:ef P c nt d (.pick x y z) K fx fx e U=dN nt d (yj (zI e x) (zI e y) (zI e z)) K fx e U:=(xH rfl rfl).trans rfl
@[go_sem]theorem Fg:ef P c nt d (.alloc t) K fx fx e U=dN nt d (rR P t U) K fx e U:=(xH rfl rfl).trans rfl
@[go_sem]theorem Jb:ef P c nt d (.box t x) K fx fx e U=dN nt d (vC U (zI e x)) K fx e U:=(xH rfl rfl).trans rfl
@[go_sem]theorem Fh{l:List (Nat×Operand)}:ef P c nt d (.build t l.toArray) K fx fx e U=dN nt d (yt (gK P t) (ff P t) (l.map λp=>(p.1,zI e p.2))) K fx e U:=(xH rfl rfl).trans rfl
@[go_sem]theorem tf{n:Nat}{l:List (Nat×Operand)}:ef P c nt d (.buildSlice t n l.toArray) K fx fx e U=dN nt d (wh (l7 e d) (uy ((ec P t).map (·.1)) n U (l.map λp=>(p.1,zI e p.2))) (uw ((ec P t).map (·.1)) n (l.map λp=>(p.1,zI e p.2)))) K fx e U:=id rfl
@[go_sem]theorem G1:ef P c nt d (.load t x) K fx fx e U=dN nt d (nx P t U (zI e x)) K fx e U:=(xH rfl rfl).trans rfl
@[go_sem]theorem Fi:ef P c nt d (.store t x y) K fx fx e U=dN nt d (vz P t U (zI e x) (zI e y)) K fx e U:=(xH rfl rfl).trans rfl
@[go_sem]theorem Jc:ef P c nt d (.nilCheck x) K fx fx e U=dN nt d (yl (zI e x)) K fx e U:=(xH rfl rfl).trans rfl
@[go_sem]theorem Jd:ef P c nt d (.binOp op t x y t') K fx fx e U=dN nt d (wh (pV y) (vy op (ka P t) (zI e x)) (wh (rT y) (zb op (nz P t) (zI e x)) (oA op (ka P t) (nv P t) (zI e x) (zI e y)))) K fx e U:=(xH rfl rfl).trans rfl
@[go_sem]theorem zn{t:Nat}:pV (.tmp t)=false:=rfl
@[go_sem]theorem zo:pV (.const (.slice none 0 0))=true:=rfl
@[go_sem]theorem zp:pV (.const (.int k n))=false:=rfl
@[go_sem]theorem vM:pV (.const (.bool b))=false:=rfl
@[go_sem]theorem zq{b:ByteArray}:pV (.const (.string b))=false:=rfl
@[go_sem]theorem zr{a:Option Addr}:pV (.const (.pointer a))=false:=rfl
@[go_sem]theorem vN:pV (.func f)=false:=rfl
@[go_sem]theorem zt{m:aip}:pV (.const (.map m))=false:=rfl
@[go_sem]theorem vO{t:Nat}:rT (.tmp t)=false:=rfl
@[go_sem]theorem vP:rT (.const (.map none))=true:=rfl
@[go_sem]theorem vQ:rT (.const (.int k n))=false:=rfl
@[go_sem]theorem uC:rT (.const (.bool b))=false:=rfl
@[go_sem]theorem vR{b:ByteArray}:rT (.const (.string b))=false:=rfl
@[go_sem]theorem vS{a:Option Addr}:rT (.const (.pointer a))=false:=rfl
@[go_sem]theorem uD:rT (.func f)=false:=rfl
def Qt(l:List (V×St))(A:V->St->Prop)(_:Fx A):Prop:=∀p∈l,A p.1 p.2
@[go_sem]theorem Yb{l:List (V×St)}:dN nt d (.any l) K fx e U=Qt l (λv s=>iQ nt d v K fx e s) fx:=id rfl
theorem Yc{l:List (V×St)}{A:V->St->Prop}(h:∀p∈l,A p.1 p.2):Qt l A fx:=h
@[go_sem]theorem zu{r:Option Operand}:ef P c nt d (.makeMap t r) K fx fx e U=dN nt d (y8 U (nz P t) (r.map (zI e))) K fx e U:=(xH rfl rfl).trans rfl
@[go_sem]theorem CP{k:Operand}{ok:Bool}:ef P c nt d (.lookup t x k ok) K fx fx e U=dN nt d (wI (gq P t) U (zI e x) (zI e k) ok) K fx e U:=(xH rfl rfl).trans rfl
@[go_sem]theorem uE{k v:Operand}:ef P c nt d (.mapUpdate t x k v) K fx fx e U=dN nt d (wG (gq P t) U (zI e x) (zI e k) (zI e v)) K fx e U:=(xH rfl rfl).trans rfl
@[go_sem]theorem Fj:ef P c nt d (.range t x) K fx fx e U=dN nt d (zc (nz P t) U (zI e x)) K fx e U:=(xH rfl rfl).trans rfl
@[go_sem]theorem G2:ef P c nt d (.next x false) K fx fx e U=dN nt d (wh (l7 e d) (nA true U (zI e x)) (nA false U (zI e x))) K fx e U:=id rfl
@[go_sem]theorem CQ{k:Operand}:ef P c nt d (.call ⟨.builtin .delete,#[x,k],#[t,t']⟩) K fx fx e U=dN nt d (za (gq P t) U (zI e x) (zI e k)) K fx e U:=(xH rfl rfl).trans rfl
attribute[go_sem]GC BX y8 wI wG zc nA za zb nf oC qv y9 zd
@[go_sem]theorem LZ{op:UnOp}:ef P c nt d (.unOp op t x) K fx fx e U=dN nt d (nw op (zI e x)) K fx e U:=(xH rfl rfl).trans rfl
@[go_sem]theorem G3:ef P c nt d (.convert t t' x) K fx fx e U=dN nt d (wh (l7 e d) (y4 (jI P t) (jI P t') U (zI e x)) (vF (jI P t) (jI P t') (zI e x))) K fx e U:=id rfl
@[go_sem]theorem Fk{hi:Option Operand}:ef P c nt d (.slice t x none hi none) K fx fx e U=dN nt d (sQ (iD P t) (du P t) ((ec P t).map (·.1)) (zI e x) none (hi.map (zI e))) K fx e U:=(xH rfl rfl).trans rfl
@[go_sem]theorem CR{lo hi:Operand}:ef P c nt d (.slice t x (some lo) (some hi) none) K fx fx e U=dN nt d (sQ (iD P t) (du P t) ((ec P t).map (·.1)) (zI e x) (some (zI e lo)) (some (zI e hi))) K fx e U:=(xH rfl rfl).trans rfl
@[go_sem]theorem CS{lo:Operand}:ef P c nt d (.slice t x (some lo) none none) K fx fx e U=dN nt d (wh (l7 e d) (yu (du P t) ((ec P t).map (·.1)) U (zI e x) (zI e lo)) (sQ (iD P t) (du P t) ((ec P t).map (·.1)) (zI e x) (some (zI e lo)) none)) K fx e U:=id rfl
@[go_sem]theorem uF{f:Nat}:ef P c nt d (.fieldAddr t x f) K fx fx e U=dN nt d (yn P t (zI e x) f) K fx e U:=(xH rfl rfl).trans rfl
@[go_sem]theorem Fl{f:Nat}:ef P c nt d (.field t x f) K fx fx e U=dN nt d (yy (cI P t f) (zI e x)) K fx e U:=(xH rfl rfl).trans rfl
@[go_sem]theorem zw{i:Operand}:ef P c nt d (.indexAddr t x i) K fx fx e U=dN nt d (vD (eQ P t) (iD P t) (zI e x) (zI e i)) K fx e U:=(xH rfl rfl).trans rfl
@[go_sem]theorem Je{i:Operand}:ef P c nt d (.index t x i) K fx fx e U=dN nt d (vE (zI e x) (zI e i) (qo P t) (iD P t)) K fx e U:=(xH rfl rfl).trans rfl
@[go_sem]theorem zx:ef P c nt d (.extract x i) K fx fx e U=dN nt d (ym (zI e x) i) K fx e U:=(xH rfl rfl).trans rfl
@[go_sem]theorem G4{fn:Fn}{m:List Operand}:ef P c nt d (.makeFunc fn l.toArray m.toArray) K fx fx e U=dN nt d (yz fn l.length (m.map (zI e))) K fx e U:=(xH rfl rfl).trans rfl
@[go_sem]theorem G5{l m:Operand}:ef P c nt d (.makeSlice t l m) K fx fx e U=dN nt d (wh (l7 e d) (vH (ec P t) (iP P t) U (zI e l) (zI e m)) (vG (ec P t) (iP P t) U (zI e l) (zI e m))) K fx e U:=id rfl
@[go_sem]theorem Jf:ef P c nt d (.call ⟨.builtin .len,#[x],#[t]⟩) K fx fx e U=dN nt d (yp (du P t) (zI e x)) K fx e U:=(xH rfl rfl).trans rfl
@[go_sem]theorem Fm:ef P c nt d (.call ⟨.builtin .clear,#[x],#[t]⟩) K fx fx e U=dN nt d (vI ((ec P t).map (·.1)) (iP P t) U (zI e x)) K fx e U:=(xH rfl rfl).trans rfl
@[go_sem]theorem CT:ef P c nt d (.call ⟨.builtin .append,#[x,y],#[t,t']⟩) K fx fx e U=dN nt d (wh (l7 e d) (sO (ec P t) (du P t') U (zI e x) (zI e y)) (sN (ec P t) (du P t') U (zI e x) (zI e y))) K fx e U:=id rfl
@[go_sem]theorem Jg:ef P c nt d (.call ⟨.builtin .min,l.toArray,ts⟩) K fx fx e U=dN nt d (qp false (l.map (zI e))) K fx e U:=(xH rfl rfl).trans rfl
@[go_sem]theorem Jh:ef P c nt d (.call ⟨.builtin .max,l.toArray,ts⟩) K fx fx e U=dN nt d (qp true (l.map (zI e))) K fx e U:=(xH rfl rfl).trans rfl
@[go_sem]theorem G6{f:Operand}:ef P c nt d (.call ⟨.value f,l.toArray,ts⟩) K fx fx e U=jE P c (zI e f) (l.map (zI e)) U (LW nt d K fx e) fx:=id rfl
@[go_sem]theorem Fo{t:Nat}:zI e (.tmp t)=e t:=rfl
@[go_sem]theorem zy{v:Value}:zI e (.const v)=jf v:=rfl
@[go_sem]theorem CU{g:Nat}:zI e (.global g)=PC g:=rfl
@[go_sem]theorem CV:zI e (.func f)=.fn f []:=rfl
@[go_sem]theorem Ji{t':Nat}{v:V}{t:Nat}:fe e t' v t=if t=t' then v else e t:=rfl
@[go_sem]theorem CW:jf (.bool b)=.bool b:=rfl
@[go_sem]theorem Fp:jf (.int k n)=.int k n:=rfl
@[go_sem]theorem Fq{s:ByteArray}:jf (.string s)=.str s.data.toList:=rfl
@[go_sem]theorem CX:jf (.pointer none)=.fK:=rfl
@[go_sem]theorem CY:jf (.slice none 0 0)=.sl .full []:=rfl
attribute[go_sem]yu vy GA BV yj yl nw vF y4 qp yp vC rR ym yy yn nx rQ vz nu xT vE vD sQ yw oB sN sO BW sM PL vI uw uy vH sP yt EL vG yz GI oz pT rS uv kh nC
@[go_sem]theorem Fs{x y:Int}:oA op ek es (.int k x) (.int k y)=BT op k x y:=by simp[oA]
@[go_sem]theorem Ft{x y:aij}:oA op ek es (.str x) (.str y)=BU op x y:=rfl
@[go_sem]theorem CZ{x y:Bool}:oA op 1 es (.bool x) (.bool y)=(match op with|.eql=>.ok (.bool (x==y))|.neq=>.ok (.bool (!(x==y)))|_=>.fail):=rfl
@[go_sem]theorem Fu{o:Nat}:oA op 2 es (.ptr i o) .fK=(match op with|.eql=>.ok (.bool false)|.neq=>.ok (.bool true)|_=>.fail):=rfl
@[go_sem]theorem Fv:oA op 2 es .fK .fK=(match op with|.eql=>.ok (.bool true)|.neq=>.ok (.bool false)|_=>.fail):=rfl
@[go_sem]theorem Fw{ks:List Pk}{az bs:List V}:oA op ek (some ks) (.agg az) (.agg bs)=(match lG ks az bs with|some r=>(match op with|.eql=>.ok (.bool r)|.neq=>.ok (.bool (!r))|_=>.fail)|none=>.fail):=rfl
attribute [go_sem] BT BU lG jJ putCells
end
def rW:V->Bool |.ptr _ _|.sl (.app _) _|.agg _|.cm _|.fn _ _|.cL _ _ _ _ _|.jj _ _ _ _ _|.j9 _ _ _ _|.mp _|.gW _ _=>false|_=>true
def oZ:V->Bool |.fn _ bY=>bY.all rW|.gW _ vs=>vs.all rW|v=>rW v
def vT:V->Bool|.agg cs=>cs.all oZ|v=>oZ v
def iH:V->Bool|.cm vs=>vs.all vT|v=>vT v
def cF(n:Nat):V->Bool |.ptr id _=>decide (id<n)|.sl (.app id) _=>decide (id<n)|.cL id _ _ _ _=>decide (id<n)|.jj id _ _ _ _=>decide (id<n)|.j9 id _ _ _=>decide (id<n)|.mp id=>decide (id<n)|.agg _|.cm _|.fn _ _|.gW _ _=>false|_=>true
def cH(n:Nat):V->Bool |.fn _ bY=>bY.all (cF n)|.gW _ vs=>vs.all (cF n)|v=>cF n v
def l8(n:Nat):V->Bool |.agg cs=>cs.all (cH n)|v=>cH n v
def jZ(n:Nat):V->Bool |.cm vs=>vs.all (l8 n)|v=>l8 n v
def bO(n:Nat):Ob->Bool |.box cells=>cells.all (cH n)|.cj rows _=>rows.all λr=>r.all (cH n)|.mp dD _ _=>dD.all (l8 n)|.it m _ _ _=>(match m with|some id=>decide (id<n)|none=>true)|_=>true
theorem wU{J:Type}{f:J->J}{p:J->Bool}(h:∀a,p a=true->f a=a):∀{l:List J},l.all p=true->l.map f=l
 |[],_=>rfl|a::l,q=>by simp only[Aq,A8]at q;rw[Ad,h a q.1,wU h q.2]
section
variable {ρ:Nat->Nat}
theorem Qu{v:V}(h:rW v):dE ρ v=v:=by cases v with
 |sl g rows=>cases g<;>first|rfl|simp[rW]at h
 |_=>first|rfl|simp[rW]at h
theorem DA{v:V}(h:oZ v):dz ρ v=v:=by cases v with
 |fn f bY=>simp only[dz];rw[wU (λ_=>Qu) h]|gW t v=>simp only[dz];rw[wU (λ_=>Qu) h]|sl g rows=>cases g<;>first|rfl|simp[oZ,rW]at h
 |_=>first|rfl|simp[oZ,rW]at h
theorem L4{v:V}(h:vT v):dQ ρ v=v:=by cases v with
 |agg cs=>simp only[dQ];rw[wU (λ_=>DA) h]|fn f bY=>exact DA (v:=.fn f bY) h|gW t v=>exact DA (v:=.gW t v) h|sl g rows=>cases g<;>first|rfl|simp[vT,oZ,rW]at h
 |_=>first|rfl|simp[vT,oZ,rW]at h
theorem DB{v:V}(h:iH v):dG ρ v=v:=by cases v with
 |cm vs=>simp only[dG];rw[wU (λ_=>L4) h]|agg cs=>exact L4 (v:=.agg cs) h|fn f bY=>exact DA (v:=.fn f bY) h|gW t v=>exact DA (v:=.gW t v) h|sl g rows=>cases g<;>first|rfl|simp[iH,vT,oZ,rW]at h
 |_=>first|rfl|simp[iH,vT,oZ,rW]at h
variable {n:Nat} (jn: ∀i,i<n->ρ i=i)
include jn
theorem z6{v:V}(h:cF n v):dE ρ v=v:=by cases v with
 |sl g rows=>cases g with|app id=>simp_all[cF,dE]|_=>rfl
 |ptr id off=>simp_all[cF,dE]|cL id s n lo m=>simp_all[cF,dE]|jj id s n k j=>simp_all[cF,dE]|j9 id s off n=>simp_all[cF,dE]|mp id=>simp_all[cF,dE]|_=>first|rfl|simp[cF]at h
theorem ng{v:V}(h:cH n v):dz ρ v=v:=by cases v with |fn f bY=>simp only[dz];rw[wU (by grind[z6]) h]|gW t v=>simp only[dz];rw[wU (by grind[z6]) h]|sl g rows=>have:=z6 jn (v:=.sl g rows) h;simpa|ptr id off=>exact z6 jn (v:=.ptr id off) h|cL id s' n' lo m=>exact z6 jn (v:=.cL id s' n' lo m) h|jj id s' n' k j=>exact z6 jn (v:=.jj id s' n' k j) h|j9 id s' off n'=>exact z6 jn (v:=.j9 id s' off n') h|mp id=>exact z6 jn (v:=.mp id) h|_=>first|rfl|simp[cH,cF]at h
theorem Jj{v:V}(h:l8 n v):dQ ρ v=v:=by cases v with |agg cs=>simp only[dQ];rw[wU (by grind[ng]) h]|fn f bY=>exact ng jn (v:=.fn f bY) h|gW t v=>exact ng jn (v:=.gW t v) h|sl g rows=>have:=ng jn (v:=.sl g rows) h;simpa|ptr id off=>exact ng jn (v:=.ptr id off) h|cL id s' n' lo m=>exact ng jn (v:=.cL id s' n' lo m) h|jj id s' n' k j=>exact ng jn (v:=.jj id s' n' k j) h|j9 id s' off n'=>exact ng jn (v:=.j9 id s' off n') h|mp id=>exact ng jn (v:=.mp id) h|_=>first|rfl|simp[l8,cH,cF]at h
theorem L5{v:V}(h:jZ n v):dG ρ v=v:=by cases v with |cm vs=>simp only[dG];rw[wU (by grind[Jj]) h]|agg cs=>exact Jj jn (v:=.agg cs) h|fn f bY=>exact ng jn (v:=.fn f bY) h|gW t v=>exact ng jn (v:=.gW t v) h|sl g rows=>have:=Jj jn (v:=.sl g rows) h;simpa|ptr id off=>exact ng jn (v:=.ptr id off) h|cL id s' n' lo m=>exact ng jn (v:=.cL id s' n' lo m) h|jj id s' n' k j=>exact ng jn (v:=.jj id s' n' k j) h|j9 id s' off n'=>exact ng jn (v:=.j9 id s' off n') h|mp id=>exact ng jn (v:=.mp id) h|_=>first|rfl|simp[jZ,l8,cH,cF]at h
theorem mF{o:Ob}(h:bO n o):yO ρ o=o:=by cases o with
 |box cells=>simp only[yO];rw[wU (by grind[ng]) h]|cj rows s=>simp only[yO];rw[wU (by grind[wU,ng]) h]|mp dD gk cM=>simp only[yO];rw[wU (by grind[Jj]) h]|it m since seen last=>cases m with |none=>rfl|some id=>simp_all[bO,yO]
 |_=>rfl
end
theorem tg{n N i:Nat}(h:i<n):cO (List.range n) N i=i:=by grind[jD]
theorem Qv{n0:Nat}{s loc:St}(cK:s.all (bO s.length))(hn:n0<=s.length):gy n0 (List.range s.length) (s++loc) s:=by
 refine⟨sm,Bw,λi j o hi ho=>?_,λi hi=>?_⟩
 .obtain⟨hl,hj⟩:=A5.1 hi;simp at hj hl;subst hj;have:bO s.length o=true:=by grind
  grind[mF,tg]
 grind
theorem zD{ρ:Nat->Nat}{v:V}(h:iH v):cR ρ v v:=.inl (DB h).symm
theorem zP{ρ:Nat->Nat}{g:Tag}{rows:List (List V)}:cR ρ (.sl .ro rows) (.sl g rows):=.inr sm
theorem o7{n N:Nat}{v:V}(h:jZ n v):cR (cO (List.range n) N) v v:=.inl (by grind[L5,tg])
theorem yC{ρ:Nat->Nat}:∀{l:List V},l.all iH=true->bM (cR ρ) l l
 |[],_=>trivial|v::l,h=>by simp only[Aq,A8]at h;exact⟨zD h.1,yC h.2⟩
section
variable{P:Program}{c:Ctx}{nt:Nat}{e:Env}{U:St}{K:KT}{Q:QT}{d:Option Tmp}{R:V->St->Prop}{rs:List ResultVar}{n0:Nat}
variable{f:FuncId}{bY:List V}{cc:List V}{KV:V->St->Prop}
def bW(v:Option V)(n0:Nat)(R:V->St->Prop)(U:St):Prop:=∃x,v=some x/\qE n0 R x U
@[go_sem]theorem G7:mD P rs n0 R .ret e U=bW (mC P rs e U) n0 R U:=id rfl
@[go_sem]theorem z7:mD P rs n0 R .normal e U=bW (mC P rs e U) n0 R U:=id rfl
attribute [go_sem] mC EW CF
theorem zV{v r:V}(hr:cR (cO [] U.length) r v)(hR:R r []):bW (some v) 0 R U:=⟨v,rfl,v,U,[],[],r,.refl _ _,⟨rfl,C5,sm,om⟩,hr,hR⟩
theorem qI(k:Nat){v r:V}(hk:(U.take k).length=k)(cK:(U.take k).all (bO k))(hn:n0<=k)(hr:cR (cO (List.range k) U.length) r v)(hR:R r (U.take k)):bW (some v) n0 R U:=by have h1:U.take k++U.drop k=U:=sm;have hp:=Qv (n0:=n0) (s:=U.take k) (loc:=U.drop k) (by rw[hk];exact cK) (by rw[hk];exact hn);rw[h1,hk]at hp;exact⟨v,rfl,v,U,_,U.take k,r,.refl _ _,hp,hr,hR⟩
theorem L6(id s:Nat)(rows:List (List V)){v:V}(cD:U[id]?=some (.cj rows s))(hp:xB rows)(h:bW (some (fr id rows v)) n0 R (lk id rows U)):bW (some v) n0 R U:=by obtain⟨x,hx,v1,U1,pick,U',r,hf,hr⟩:=h;cases hx;exact⟨v,rfl,v1,U1,pick,U',r,.step id s rows cD hp hf,hr⟩
abbrev Pure(P:Program)(f:FuncId)(args:List V)(v:V):Prop:=bL P f args [] λr s=>r=v/\s=[]
theorem zJ{args:List V}{v:V}(hc:Pure P f cc v)(hb:wQ P f)(aa:bM (cR (cO [] U.length)) cc (args++bY))(hn:iH v)(hk:KV v U):jE P c (.fn f bY) args U KV fx:=by refine VC.of hc hb [] C5 rfl sm aa ?_;rintro r U' ⟨rfl,rfl⟩_;grind[DB,wD,gr]
theorem Yd{args:List V}{o:Ob}{i:Nat}{R:V->St->Prop}(hc:bL P f cc [o] R)(hb:wQ P f)(ho:U[i]?=some o)(ab:bO 0 o)(aa:bM (cR (cO [i] U.length)) cc (args++bY))(hk:∀r U',R r U'->1<=U'.length->KV (dG (cO [i] U.length) r) (wD [i] U U')):jE P c (.fn f bY) args U KV fx:=by refine VC.of hc hb [i] sm rfl (λk j o' h1 h2=>?_) aa hk;cases k with |zero=>simp at h1 h2;subst h1;subst h2;rw[mF (n:=0) om ab];exact ho|succ k=>grind
theorem Ye{args:List V}{gp:St}{R:V->St->Prop}(hc:bL P f cc gp R)(hb:wQ P f)(cS:aik)(ab:cS.Nodup)(hlen:gp.length=cS.length)(ad:∀(i j:Nat)(o:Ob),cS[i]?=some j->gp[i]?=some o->U[j]?=some (yO (cO cS U.length) o))(aa:bM (cR (cO cS U.length)) cc (args++bY))(hk:∀r U',R r U'->cS.length<=U'.length->KV (dG (cO cS U.length) r) (wD cS U U')):jE P c (.fn f bY) args U KV fx:=VC.of hc hb cS ab hlen ad aa hk
end
def l9:Op->Nat |.move _|.assign _|.pick ..|.build ..|.buildSlice ..|.nilCheck _|.binOp ..|.unOp ..|.convert ..|.slice ..|.fieldAddr ..|.field ..|.indexAddr ..|.index ..|.extract ..|.makeFunc ..=>0|.call ⟨.builtin .len,_,_⟩|.call ⟨.builtin .min,_,_⟩|.call ⟨.builtin .max,_,_⟩=>0|.load ..=>1|.alloc ..|.box ..=>3|_=>4
def zX(q:List (Nat×Nat))(i:Nat)(o:Oper):Nat:=match q.find? (·.1==i)with|some p=>min p.2 4|none=>l9 o.op
structure Kp where
 x:Nat
 n:Nat
 ex:aik
 ob:Option (Nat×(Ob->R))
abbrev Kp.pre(n:Nat):Kp:=⟨0,n,[],none⟩
def Kp.has(k:Kp)(id:Nat):Bool:=decide (k.x<=id)&&decide (id<k.n)&&!k.ex.contains id
@[go_sem]theorem Kp.Jk{n id:Nat}:(Kp.mk 0 n [] none).has id=decide (id<n):=by simp[Kp.has]
@[go_sem]theorem Kp.Jl{x n id:Nat}:(Kp.mk (x+1) n [] none).has id=(decide (x+1<=id)&&decide (id<n)):=by simp[Kp.has]
def Kp.of(k:Kp)(U:St):St×Option R:=(((U.take k.n).mapIdx λi o=>if k.ex.contains i then .dead else o).drop k.x,k.ob.bind λp=>((U.take k.n)[p.1]?).map p.2)
theorem Kp.get{k:Kp}{id:Nat}{U S:St}(h:k.has id)(ht:k.of U=k.of S):U[id]?=S[id]?:=by simp only[Kp.has,A8,ahS,Dm]at h;obtain⟨⟨h1,h2⟩,h3⟩:=h;have e:∀τ:St,(k.of τ).1[id-k.x]?=τ[id]?:=(by simp_all[Kp.of]);grind
theorem Kp.ma{k:Kp}{U ext:St}(h:k.n<=U.length):k.of (U++ext)=k.of U:=by grind[Kp.of]
theorem Kp.iR{k:Kp}{U:St}{id:Nat}{o:Ob}(h:(id<k.x/\k.ob=none)\/k.n<=id):k.of (U.set id o)=k.of U:=by
 unfold Kp.of;congr 1;.refine Bs λi=>?_;grind
 grind
theorem Kp.z8{k:Kp}{U:St}{id:Nat}{o o':Ob}(hx:k.ex.contains id)(ho:U[id]?=some o)(hk:∀p,k.ob=some p->p.1=id->p.2 o'=p.2 o):k.of (U.set id o')=k.of U:=by
 unfold Kp.of;congr 1;.congr 1;refine Bs λi=>?_;grind
 .cases aa:k.ob<;>grind
def AA(a b:Nat):Bool:=(a==4&&b !=0)||(b==4&&a !=0)||(a==3&&(b==3||b==2))||(b==3&&a==2)
def o8(ops:List Oper)(o:Oper):List Tmp:=(o.op.operands.toList.filterMap λ|.tmp t=>some t|_=>none)++(match o.guard with|some (j,_)=>(kf ops j).toList|none=>[])++(o.dst.map (100000+·)).toList
def cK(P:Program)(d:Option Tmp)(e:Env)(op:Op):Prop:=l7 e d=false\/∀e U,gX P e U op=bZ P e U op
theorem qJ{P:Program}{d:Option Tmp}{e:Env}{op:Op}(h:cK P d e op)(U:St):xP P d e U op=bZ P e U op:=by unfold xP;rcases h with h|h;all_goals grind
theorem Yf{d:Option Tmp}{e e':Env}(h:∀t,d=some t->e (100000+t)=e' (100000+t)):l7 e d=l7 e' d:=by cases d with|none=>rfl|some t=>simp only[l7,h t rfl]
def fW:List Oper->List aik->List aik|[],acc=>acc|o::os,acc=>fW os (acc++[((o.after.toList.filter (Region.binds .any)).flatMap λe=>e.on::acc.getD e.on []).eraseDups])
def uG(ops:List Oper)(q:List (Nat×Nat))(i j:Nat)(a b:Oper):Bool:=AA (zX q i a) (zX q j b)||(match a.dst with|some d=>(o8 ops b).contains d||b.dst==some d|none=>false)||(match b.dst with|some d=>(o8 ops a).contains d|none=>false)
def uH(ops:List Oper)(q:List (Nat×Nat)):Bool:=let b:=fW ops []
 (List.range ops.length).all λj=>(List.range j).all λi=>match ops[i]?,ops[j]?with|some x,some y=>!uG ops q i j x y||(b.getD j []).contains i|_,_=>true
def rX(ops:List Oper):Bool:=(List.range ops.length).all λj=>match ops[j]?with|some o=>o.after.all λe=>!Region.binds .any e||decide (e.on<j)|none=>true
section
variable{P:Program}{c:Ctx}{nt:Nat}{n0:Kp}
variable {U:St}{e:Env}{e':Env}
theorem Qw(ops:List Oper)(D:Nat->Prop)(hD:∀(j:Nat) o,ops[j]?=some o->D j->∀e∈o.after.toList,Region.binds .any e=true->D e.on):∀(rest pre:List Oper)(acc:List aik),ops=pre++rest->acc.length=pre.length->(∀j l,acc[j]?=some l->D j->∀i∈l,D i)->∀j l,(fW rest acc)[j]?=some l->D j->∀i∈l,D i
 |[],_,acc,_,_,h=>h|o::rest,pre,acc,aa,hlen,h=>by
  rw[fW];refine Qw ops D hD rest (pre++[o]) _ (by grind) (by grind) λj l hj ab i hi=>?_;rcases xM hj with⟨_,hj⟩|⟨hj,hl⟩;.grind
  .have ad:j=pre.length:=om;rw[hl]at hi;have ae:=List.mem_eraseDups.1 hi;grind
def DC(n0:Kp):V->Bool|.ptr id _=>n0.has id|.jj id _ _ _ _=>n0.has id|_=>true
def gL(n0:Kp)(U U':St):Prop:=(∃ext,U'=U++ext)\/n0.of U'=n0.of U
theorem gL.refl{n0:Kp}:gL n0 U U:=.inr rfl
def Fact(P:Program)(c:Ctx)(nt:Nat)(n0:Kp)(ops:List Oper)(q:List (Nat×Nat))(i:Nat)(o:Oper)(e:Env)(U:St)(v:V)(U':St):Prop:=(∀t,o.dst=some t->t<nt)/\(zX q i o<3->U'=U)/\(zX q i o=3->gL n0 U U')/\U.length<=U'.length/\∃g:Bool,(match o.guard with|none=>g=true|some (j,want)=>∃t,kf ops j=some t/\((∃b,e t=.bool b/\g=(b==want))\/(e t=.cm []/\g=false)))/\(if g then(match o.op with |.call ⟨.value f,args,_⟩=>(if zX q i o=0then∀s,VC P c (zI e f) (args.toList.map (zI e)) s (λr s'=>r=v/\s'=s)else if zX q i o=1then∀s,n0.of s=n0.of U->VC P c (zI e f) (args.toList.map (zI e)) s (λr s'=>r=v/\s'=s)else VC P c (zI e f) (args.toList.map (zI e)) U (λr s=>r=v/\s=U'))|op=>(zX q i o<3->cK P o.dst e op)/\(zX q i o=0->l9 op=0)/\(zX q i o=1->(∃t x,op=.load t x/\DC n0 (zI e x)=true)\/(∀t x,op≠.load t x)/\∀s,n0.of s=n0.of U->bZ P e s op=bZ P e U op)/\((xP P o.dst e U op=.ok v/\U'=U)\/(∃p,xP P o.dst e U op=.eF p v/\p/\U'=U)\/(3<=zX q i o/\(xP P o.dst e U op=.st v U'\/∃p,xP P o.dst e U op=.dp p v U'/\p))))else v=.cm []/\U'=U)
def fP(e:Env)(d:Option Tmp)(v:V):Env:=match d with|some t=>fe e t v|none=>e
def o9(P:Program)(c:Ctx)(nt:Nat)(n0:Kp)(ops:List Oper)(q:List (Nat×Nat)):Nat->List Oper->Env->St->List (V×St)->Prop |_,[],_,_,[]=>True|i,o::os,e,U,(v,U')::tr=>Fact P c nt n0 ops q i o e U v U'/\o9 P c nt n0 ops q (i+1) os (fP e o.dst v) U' tr|_,_,_,_,_=>False
def fE(D:Nat->Bool):Nat->List Oper->List (V×St)->Env->Env |i,o::os,(v,_)::tr,e=>fE D (i+1) os tr (if D i then fP e o.dst v else e)|_,_,_,e=>e
def fS(D:Nat->Bool)(q:List (Nat×Nat)):Nat->List Oper->List (V×St)->St->St |i,o::os,(_,U')::tr,s=>fS D q (i+1) os tr (if D i&&decide (3<=zX q i o)then U' else s)|_,_,_,s=>s
theorem AB(e:Env)(d:Option Tmp)(v:V)(t:Tmp)(h:d=some t):fP e d v t=v:=by simp_all[fP,fe]
theorem AD(e:Env)(d:Option Tmp)(v:V)(t:Tmp)(h:d≠some t):fP e d v t=e t:=by cases d with|none=>rfl|some d=>simp only[fP,fe];grind
theorem qK(D D':Nat->Bool)(t:Tmp):∀(os:List Oper)(tr:List (V×St))(i:Nat)(e e':Env),e t=e' t->(∀(k:Nat) o,os[k]?=some o->o.dst=some t->D (i+k)=D' (i+k))->fE D i os tr e t=fE D' i os tr e' t
 |[],_,_,_,_,h,_=>by simpa|o::os,[],_,_,_,h,_=>by simpa|o::os,(v,s)::tr,i,e,e',h,hD=>by
  rw[fE,fE];refine qK D D' t os tr (i+1) _ _ ?_ (λk o' hk hd=>by have:=hD (k+1) o' (sU hk) hd;grind);by_cases hd:o.dst=some t;.have:=hD 0 o rfl hd;rw[D6]at this;grind[AB]
  grind[AD]
theorem Jm(D:Nat->Bool)(t:Tmp)(os:List Oper)(tr:List (V×St))(i:Nat)(e:Env)(h:∀(k:Nat) o,os[k]?=some o->o.dst=some t->D (i+k)=false):fE D i os tr e t=e t:=by have h1:=qK D (λ_=>false) t os tr i e e rfl om;rw[h1];clear h h1;induction os generalizing tr i with|nil=>rfl|cons o os ih=>cases tr<;>simp_all[fE]
theorem DD(D:Nat->Bool)(t:Tmp):∀(os:List Oper)(tr:List (V×St))(i k:Nat)(e:Env)(o:Oper)(v:V)(s:St),os[k]?=some o->tr[k]?=some (v,s)->o.dst=some t->D (i+k)=true->(∀(k':Nat) o',k<k'->os[k']?=some o'->o'.dst=some t->D (i+k')=false)->fE D i os tr e t=v
 |[],_,_,_,_,_,_,_,h,_,_,_,_=>by grind|_::_,[],_,_,_,_,_,_,_,h,_,_,_=>by grind|o1::os,(v1,s1)::tr,i,0,e,o,v,s,h1,h2,hd,hD,hl=>by
  simp at h1 h2;obtain⟨rfl,rfl⟩:=h2;subst h1;rw[fE,ahP om,Jm];.grind[AB]
  .intro k o' hk aa;have:=hl (k+1) o' om (sU hk) aa;grind|o1::os,(v1,s1)::tr,i,k+1,e,o,v,s,h1,h2,hd,hD,hl=>by rw[fE];refine DD D t os tr (i+1) k _ o v s (sU h1) (sU h2) hd (by rwa[show i+1+k=i+(k+1)by omega]) λk' o' ad ab aa=>?_;have:=hl (k'+1) o' om (sU ab) aa;rwa[show i+1+k'=i+(k'+1)by omega]
theorem th(D D':Nat->Bool)(q:List (Nat×Nat)):∀(os:List Oper)(tr:List (V×St))(i:Nat)(s:St),(∀(k:Nat) o,os[k]?=some o->3<=zX q (i+k) o->D (i+k)=D' (i+k))->fS D q i os tr s=fS D' q i os tr s
 |[],_,_,_,_=>by rfl|o::os,[],_,_,_=>by rfl|o::os,(v,U')::tr,i,s,h=>by
  rw[fS,fS];have e1:(if(D i&&decide (3<=zX q i o))=true then U' else s)=(if(D' i&&decide (3<=zX q i o))=true then U' else s):=by
   by_cases hk:3<=zX q i o;.have:=h 0 o rfl om;grind
   grind
  rw[e1];exact th D D' q os tr (i+1) _ (λk o' hk hd=>by have:=h (k+1) o' (by grind) (by grind);grind)
theorem AE(D:Nat->Bool)(q:List (Nat×Nat))(os:List Oper)(tr:List (V×St))(i:Nat)(s:St)(h:∀(k:Nat) o,os[k]?=some o->3<=zX q (i+k) o->D (i+k)=false):fS D q i os tr s=s:=by have h1:=th D (λ_=>false) q os tr i s h;rw[h1];clear h h1;induction os generalizing tr i with|nil=>rfl|cons o os ih=>cases tr<;>simp_all[fS]
theorem Fy(D:Nat->Bool)(q:List (Nat×Nat)):∀(os:List Oper)(tr:List (V×St))(i k:Nat)(s:St)(o:Oper)(v:V)(U':St),os[k]?=some o->tr[k]?=some (v,U')->3<=zX q (i+k) o->D (i+k)=true->(∀(k':Nat) o',k<k'->os[k']?=some o'->3<=zX q (i+k') o'->D (i+k')=false)->fS D q i os tr s=U'
 |[],_,_,_,_,_,_,_,h,_,_,_,_=>by grind|_::_,[],_,_,_,_,_,_,_,h,_,_,_=>by grind|o1::os,(v1,s1)::tr,i,0,s,o,v,U',h1,h2,hd,hD,hl=>by simp at h1 h2;obtain⟨rfl,rfl⟩:=h2;subst h1;rw[D6]at hd hD;rw[fS,ahP (by grind),AE];intro k o' hk aa;have:=hl (k+1) o' om (by grind) (by grind);grind|o1::os,(v1,s1)::tr,i,k+1,s,o,v,U',h1,h2,hd,hD,hl=>by rw[fS];refine Fy D q os tr (i+1) k _ o v U' (sU h1) (sU h2) (by rwa[show i+1+k=i+(k+1)by omega]) (by rwa[show i+1+k=i+(k+1)by omega]) λk' o' ad ab aa=>?_;have:=hl (k'+1) o' om (sU ab) (by rwa[show i+(k'+1)=i+1+k' by omega]);rwa[show i+1+k'=i+(k'+1)by omega]
theorem Fz(ops:List Oper)(q:List (Nat×Nat)):∀(os:List Oper)(tr:List (V×St))(i:Nat)(e:Env)(U:St),o9 P c nt n0 ops q i os e U tr->tr.length=os.length/\∀(k:Nat) o,os[k]?=some o->∃v U',tr[k]?=some (v,U')/\Fact P c nt n0 ops q (i+k) o (fE (λj=>decide (j<i+k)) i os tr e) (fS (λj=>decide (j<i+k)) q i os tr U) v U'
 |[],[],_,_,_,_=>sm|[],_::_,_,_,_,h=>h.elim|_::_,[],_,_,_,h=>h.elim|o::os,(v,U')::tr,i,e,U,⟨hf,ht⟩=>by obtain⟨hl,aa⟩:=Fz ops q os tr (i+1) _ _ ht;refine⟨by grind,λk o' hk=>?_⟩;cases k with
  |zero=>
   simp at hk;subst hk;refine⟨v,U',rfl,?_⟩;rw[D6,fE,fS];have h1:(if(λj=>decide (j<i)) i=true then fP e o.dst v else e)=e:=sm;have h2:(if((λj=>decide (j<i)) i&&decide (3<=zX q i o))=true then U' else U)=U:=sm;rw[h1,h2];have e1:fE (λj=>decide (j<i)) (i+1) os tr e=e:=by funext t;grind[Jm]
   grind[AE]|succ k=>
   obtain⟨v2,s2,h1,h2⟩:=aa k o' (by grind);refine⟨v2,s2,by grind,?_⟩;rw[show i+(k+1)=i+1+k by omega];rw[fE,fS,ahP (by grind)];have hs:(if((λj=>decide (j<i+1+k)) i&&decide (3<=zX q i o))=true then U' else U)=U':=by
    by_cases ab:3<=zX q i o;.grind
    .rw[ahO (by grind)];exact(hf.2.1 om).symm
   grind
theorem L7(op:Op)(h:∀x∈op.operands.toList,zI e x=zI e' x):bZ P e U op=bZ P e' U op:=by have hl:∀l:List Operand,(∀x∈l,zI e x=zI e' x)->l.map (zI e)=l.map (zI e'):=sm;have aa:∀ps:List (Nat×Operand),(∀x∈ps.map (·.2),zI e x=zI e' x)->(ps.map λp=>(p.1,zI e p.2))=(ps.map λp=>(p.1,zI e' p.2)):=λps hp=>B6 (by grind);cases op with
 |build t ps=>grind[bZ,Op.operands]|buildSlice t n ps=>grind[bZ,Op.operands]|makeFunc fn first bY=>grind[bZ,Op.operands]|slice t x lo hi mx=>cases lo<;>cases hi<;>cases mx<;>simp_all[bZ,Op.operands]|makeMap t r=>cases r<;>simp_all[bZ,Op.operands]|next x b=>cases b<;>simp_all[bZ,Op.operands]|call cl=>obtain⟨ab,args,ts⟩:=cl;cases ab with |builtin b=>have h':∀x∈args.toList,zI e x=zI e' x:=(by grind[Op.operands,Call.operands]);obtain⟨args⟩:=args;cases b<;>simp only[bZ];all_goals grind|_=>simp only[bZ]
 |_=>first|rfl|(simp_all[bZ,Op.operands];done)
theorem Yg(op:Op)(h:∀x∈op.operands.toList,zI e x=zI e' x):gX P e U op=gX P e' U op:=by have hc:=L7 (P:=P) (U:=U) op h;have aa:∀ps:List (Nat×Operand),(∀x∈ps.map (·.2),zI e x=zI e' x)->(ps.map λp=>(p.1,zI e p.2))=(ps.map λp=>(p.1,zI e' p.2)):=λps hp=>B6 (by grind);cases op with
 |buildSlice t n ps=>grind[gX,Op.operands]|makeSlice t l m=>grind[gX,Op.operands]|convert t t' x=>grind[gX,Op.operands]|slice t x lo hi mx=>cases lo with |none=>exact hc|some lo=>cases hi with |some _=>exact hc|none=>cases mx<;>grind[gX,Op.operands]
 |next x b=>cases b<;>simp_all[gX,Op.operands]|call cl=>obtain⟨ab,args,ts⟩:=cl;cases ab with
  |builtin b=>
   have h':∀x∈args.toList,zI e x=zI e' x:=(by grind[Op.operands,Call.operands]);obtain⟨args⟩:=args;cases b;case append=>simp only[gX];grind
   all_goals simpa|_=>exact hc
 |_=>exact hc
theorem Yh{d:Option Tmp}(op:Op)(hd:l7 e d=l7 e' d)(h:∀x∈op.operands.toList,zI e x=zI e' x):xP P d e U op=xP P d e' U op:=by grind[xP,L7,Yg]
theorem Yi{U':St}(o:Oper)(hc:∀f az ts,o.op≠.call ⟨.value f,az,ts⟩)(h:l9 o.op=0):bZ P e U o.op=bZ P e U' o.op:=by obtain⟨dst,op,ty,pos,dU,g⟩:=o;simp only at h hc⊢;cases op with
 |call cl=>obtain⟨aa,args,ts⟩:=cl;cases aa with
  |builtin b=>obtain⟨args⟩:=args;cases b<;>first|(simp[l9]at h;done)|(simp only[bZ];done)|(simp only[bZ];split<;>first|rfl|contradiction|(rename_i heq;simp at heq))
  |value f=>rfl|_=>rfl
 |slice t x lo hi mx=>cases lo<;>cases hi<;>cases mx<;>rfl|_=>first|rfl|(simp[l9]at h;done)
section
variable{e:Env}{U:St}{a:Act}{w:World}{L:Nat->Nat}{I:ail}
theorem Jn{ops:List Oper}{Q:Exit->Act->World->Prop}{next:Act->World->Prop}(o:Oper){K:Env->St->Prop}(h:dM c nt e U a w L I)(hK:uB o.guard ops e (jg P c nt o.dst o.op K e U) (eV nt o.dst (.cm []) K e U))(hn:∀e' U' a' w' L' I',dM c nt e' U' a' w' L' I'->K e' U'->next a' w'):if Region.wanted o (yielded ops.toArray a.tmps)then o.wp P a w next Q\/(o.asks P a w/\LetsOut Q)else next (a.put o.dst undef) w:=by
 have no:eV nt o.dst (.cm []) K e U->next (a.put o.dst undef) w:=λhv=>by obtain⟨e',hs,hk⟩:=EV h h.mem (Le.refl _ _) (Ext.refl _ _) (show dj w L U I (.cm []) undef from⟨[],rfl,tV⟩) hv;grind
 unfold uB at hK;split at hK;.rename_i hg;rw[ahP (by grind[Region.wanted])];grind[IW]
 .rename_i j want hg;split at hK
  .rename_i t ht;have hv:=h.env t;unfold kT at hK;split at hK
   .rename_i b hb;rw[hb]at hv;have hv:=pU hv;have hy:yielded ops.toArray a.tmps j=some b:=by
     unfold yielded;unfold kf at ht;have aa:(ops.toArray[j]?).bind (·.dst)=some t:=by grind
     rw[aa];simp only[An];have ab:t<a.tmps.size:=by
      rcases Ck t a.tmps.size with q|q;.exact q
      .simp[Array.getD,Nat.not_lt.2 q,undef]at hv
     simp_all
    by_cases ad:b=want;.rw[ahP (by grind[Region.wanted])];grind[IW]
    simp_all[Region.wanted]
   .rename_i hb;rw[hb]at hv;rw[ahO (by grind[Region.wanted,Qp])];grind
   grind
  grind
theorem AF{d:Option Tmp}{v:V}{K:Env->St->Prop}(hd:∀t,d=some t->t<nt)(h:K (fP e d v) U):eV nt d v K e U:=by cases d with|none=>exact h|some t=>exact⟨hd t rfl,h⟩
theorem Yj{t:TypeId}{S:St}{x:V}(h:DC n0 x)(ht:n0.of U=n0.of S):nx P t U x=nx P t S x:=by cases x with|ptr id off=>have:U[id]?=S[id]?:=Kp.get h ht;grind[nx]|jj id s n k j=>have:U[id]?=S[id]?:=Kp.get h ht;grind[nx]|_=>rfl
theorem Fact.step{ops:List Oper}{q:List (Nat×Nat)}{i:Nat}{o:Oper}{E:Env}{S:St}{v:V}{U':St}(hf:Fact P c nt n0 ops q i o E S v U')(he:∀t∈o8 ops o,e t=E t)(hs:2<=zX q i o->U=S)(h1:zX q i o=1->n0.of U=n0.of S):uB o.guard ops e (jg P c nt o.dst o.op (λe' s'=>e'=fP e o.dst v/\s'=if 3<=zX q i o then U' else U) e U) (eV nt o.dst (.cm []) (λe' s'=>e'=fP e o.dst v/\s'=if 3<=zX q i o then U' else U) e U):=by
 obtain⟨hd,av,_,_,g,hg,hb⟩:=hf;have ah:∀x∈o.op.operands.toList,zI e x=zI E x:=λx hx=>by cases x with |tmp t=>exact he t (List.mem_append_left _ (by grind))|_=>rfl
 have keep:U'=S->(if 3<=zX q i o then U' else U)=U:=(by grind);have yes:g=true->jg P c nt o.dst o.op (λe' s'=>e'=fP e o.dst v/\s'=if 3<=zX q i o then U' else U) e U:=by
  intro al;rw[ahP al]at hb;unfold jg;split
  .rename_i f args ts ab;rw[ab]at hb ah;simp only at hb;have an:=h1;have h1:zI e f=zI E f:=(by grind[Op.operands,Call.operands]);have h2:args.toList.map (zI e)=args.toList.map (zI E):=(by grind[B6,Op.operands,Call.operands]);rw[h1,h2];split at hb;.rename_i ao;refine(hb U).mono ?_;rintro x s' ⟨rfl,rfl⟩;exact AF hd (by grind)
   .rename_i ao;split at hb;.rename_i aa;refine(hb U (an aa)).mono ?_;rintro x s' ⟨rfl,rfl⟩;exact AF hd (by grind)
    rename_i aa;rw[hs om];refine hb.mono ?_;rintro x s' ⟨rfl,rfl⟩;refine AF hd ⟨rfl,?_⟩;grind
  .rename_i aw;have ad:(zX q i o<3->cK P o.dst E o.op)/\(zX q i o=0->l9 o.op=0)/\(zX q i o=1->(∃t x,o.op=.load t x/\DC n0 (zI E x)=true)\/(∀t x,o.op≠.load t x)/\∀s,n0.of s=n0.of S->bZ P E s o.op=bZ P E S o.op)/\((xP P o.dst E S o.op=.ok v/\U'=S)\/(∃p,xP P o.dst E S o.op=.eF p v/\p/\U'=S)\/(3<=zX q i o/\(xP P o.dst E S o.op=.st v U'\/∃p,xP P o.dst E S o.op=.dp p v U'/\p))):=by grind
   obtain⟨hh,hz,ho,ad⟩:=ad;have ax:l7 e o.dst=l7 E o.dst:=(by grind[Yf,o8]);have ae:xP P o.dst e U o.op=xP P o.dst E S o.op:=by
    by_cases h3:zX q i o<3
    .have ai:=hh h3;have aq:cK P o.dst e o.op:=by unfold cK at ai⊢;grind
     rw[qJ aq,qJ ai,L7 o.op ah];by_cases h0:zX q i o=0;.grind[Yi]
     .by_cases aa:zX q i o=1
      .rcases ho aa with⟨t,x,ab,aj⟩|⟨_,aj⟩;.rw[ab];exact Yj aj (h1 aa)
       grind
      grind
    grind[Yh]
   rw[ae];rcases ad with⟨hr,hq⟩|⟨p,hr,hp,hq⟩|⟨h2,hr|⟨p,hr,hp⟩⟩;.rw[hr];exact AF (K:=(λe' s'=>e'=fP e o.dst v/\s'=if 3<=zX q i o then U' else U)) hd (by grind)
   .rw[hr];exact⟨hp,AF (K:=(λe' s'=>e'=fP e o.dst v/\s'=if 3<=zX q i o then U' else U)) hd (by grind)⟩
   .rw[hr];show eV nt o.dst v (λe' s'=>e'=fP e o.dst v/\s'=if 3<=zX q i o then U' else U) e U';exact AF (K:=(λe' s'=>e'=fP e o.dst v/\s'=if 3<=zX q i o then U' else U)) hd (by grind)
   .rw[hr];show p/\eV nt o.dst v (λe' s'=>e'=fP e o.dst v/\s'=if 3<=zX q i o then U' else U) e U';exact⟨hp,AF (K:=(λe' s'=>e'=fP e o.dst v/\s'=if 3<=zX q i o then U' else U)) hd (by grind)⟩
 have no:g=false->eV nt o.dst (.cm []) (λe' s'=>e'=fP e o.dst v/\s'=if 3<=zX q i o then U' else U) e U:=by intro ar;rw[ahO (by simp[ar])]at hb;obtain⟨rfl,hq⟩:=hb;exact AF hd (by grind)
 unfold uB;split;.grind
 .rename_i j want au;rw[au]at hg;obtain⟨t,ht,af⟩:=hg;rw[ht];simp only;have:e t=E t:=he t (List.mem_append_left _ (by grind));rcases af with⟨b,ag,ak⟩|⟨ag,ak⟩;.rw[this,ag];exact⟨(by grind),(by grind)⟩
  .rw[this,ag];exact no ak
end
variable{ops:List Oper}{q:List (Nat×Nat)}{i:Nat}{j:Nat}{tr:List (V×St)}
theorem xD{a b:Oper}(h:uG ops q i j a b=false):AA (zX q i a) (zX q j b)=false/\(∀d,a.dst=some d->d∉o8 ops b/\b.dst≠some d)/\(∀d,b.dst=some d->d∉o8 ops a):=by grind[uG]
theorem wS(q:List (Nat×Nat))(i:Nat)(o:Oper):zX q i o<=4:=by
 unfold zX;split;.omega
 .unfold l9;grind
theorem AG{a b:Nat}(ha:3<=a)(aa:a<=4)(hb:2<=b)(ab:b<=4):AA a b=true:=by have h1:a=3\/a=4:=om;have h2:b=2\/b=3\/b=4:=om;rcases h1 with rfl|rfl<;>rcases h2 with rfl|rfl|rfl<;>rfl
theorem Jo(a b:Nat):AA a b=AA b a:=by grind[AA]
theorem Jp{b:Nat}(hb:1<=b):AA 4 b=true:=by grind[AA]
theorem Jq{e0:Env}{cd:St}(ht:o9 P c nt n0 ops q 0 ops e0 cd tr)(hn:n0.n<=cd.length):∀(d j:Nat),j+d<=ops.length->(∀(m:Nat) o,j<=m->m<j+d->ops[m]?=some o->zX q m o≠4)->n0.n<=(fS (λx=>decide (x<j)) q 0 ops tr cd).length/\n0.of (fS (λx=>decide (x<j+d)) q 0 ops tr cd)=n0.of (fS (λx=>decide (x<j)) q 0 ops tr cd):=by
 obtain⟨_,aa⟩:=Fz ops q ops tr 0 e0 cd ht;have next:∀k,k<ops.length->∃o v U',ops[k]?=some o/\Fact P c nt n0 ops q k o (fE (λj=>decide (j<k)) 0 ops tr e0) (fS (λj=>decide (j<k)) q 0 ops tr cd) v U'/\fS (λj=>decide (j<k+1)) q 0 ops tr cd=U':=by
  intro k hk;obtain⟨v,U',ab,hf⟩:=aa k ops[k] sm;rw[Ab]at hf;refine⟨ops[k],v,U',sm,hf,?_⟩;by_cases h3:3<=zX q k ops[k];.refine Fy _ q ops tr 0 k cd ops[k] v U' sm ab (by grind) sm (by grind)
  .have:=hf.2.1 om;rw[this];refine th _ _ q ops tr 0 cd λm o' hm ad=>?_;grind
 have len:∀j,j<=ops.length->n0.n<=(fS (λx=>decide (x<j)) q 0 ops tr cd).length:=by intro j;induction j with|zero=>grind[AE]|succ j ih=>intro hj;obtain⟨o,v,U',_,hf,he⟩:=next j om;rw[he];exact Ao om hf.2.2.2.1
 intro d;induction d with |zero=>grind|succ d ih=>
  intro j hj h4;obtain⟨h1,h2⟩:=ih j om (by grind);refine⟨h1,?_⟩;obtain⟨o,v,U',ho,hf,he⟩:=next (j+d) om;rw[show j+(d+1)=j+d+1by omega,he,<-h2];have ae:=h4 (j+d) o om om ho;have hle:=wS q (j+d) o;by_cases h3:zX q (j+d) o=3
  .rcases hf.2.2.1 h3 with⟨ext,hx⟩|hx;.rw[hx,Kp.ma (len (j+d) om)]
   omega
  .rw[hf.2.1 om]
theorem vU(h:uH ops q){x y:Oper}(aa:i<j)(hx:ops[i]?=some x)(hy:ops[j]?=some y):uG ops q i j x y=false\/i∈(fW ops []).getD j []:=by unfold uH at h;grind
theorem DE{D:Nat->Bool}(hD:∀(j:Nat) o,ops[j]?=some o->D j=true->∀e∈o.after.toList,Region.binds .any e=true->D e.on)(hi:i∈(fW ops []).getD j [])(hj:D j):D i=true:=by rw[A9]at hi;cases hb:(fW ops [])[j]?with|none=>grind|some l=>rw[hb]at hi;exact Qw ops (λk=>D k=true) hD ops [] [] rfl rfl sm j l hb hj i (by grind)
theorem Qx{l:Array Bool}(h:l[i]?=some false):(l.setIfInBounds i true).toList.count false+1=l.toList.count false:=by grind
theorem Jr{Q:Exit->Env->St->Prop}{e0:Env}{cd:St}(hn:n0.n<=cd.length)(hd:uH ops q)(av:rX ops)(ht:o9 P c nt n0 ops q 0 ops e0 cd tr)(hQ:Q .normal (fE (λ_=>true) 0 ops tr e0) (fS (λ_=>true) q 0 ops tr cd)):∀(fuel:Nat)(bJ:Array Bool)(a:Act)(w:World)(L:Nat->Nat)(I:ail),bJ.size=ops.length->bJ.toList.count false=fuel->(∀(j:Nat) o,ops[j]?=some o->bJ.getD j false=true->∀e∈o.after.toList,Region.binds .any e=true->bJ.getD e.on false=true)->dM c nt (fE (λi=>bJ.getD i false) 0 ops tr e0) (fS (λi=>bJ.getD i false) q 0 ops tr cd) a w L I->wpAny P .any ops.toArray (fo c nt Q) fuel bJ a w:=by
 obtain⟨aw,aI⟩:=Fz ops q ops tr 0 e0 cd ht;have fin:∀(bJ:Array Bool)(a:Act)(w:World)(L:Nat->Nat)(I:ail),dM c nt (fE (λi=>bJ.getD i false) 0 ops tr e0) (fS (λi=>bJ.getD i false) q 0 ops tr cd) a w L I->(∀i,i<ops.length->bJ.getD i false=true)->fo c nt Q .normal a w:=by
  intro bJ a w L I hs ab;have e1:fE (λi=>bJ.getD i false) 0 ops tr e0=fE (λ_=>true) 0 ops tr e0:=by funext t;exact qK _ _ t ops tr 0 e0 e0 rfl λk o hk _=>by rw[Ab];exact ab k (A5.1 hk).1
  have e2:fS (λi=>bJ.getD i false) q 0 ops tr cd=fS (λ_=>true) q 0 ops tr cd:=th _ _ q ops tr 0 cd λk o hk _=>by rw[Ab];exact ab k (A5.1 hk).1
  rw[e1,e2]at hs;exact⟨_,_,L,I,hs,hQ⟩
 have ax:∀(bJ:Array Bool),bJ.size=ops.length->Region.ready .any ops.toArray bJ=[]->∀i,i<ops.length->bJ.getD i false=true:=by intro bJ ai hr i;induction i using Nat.strongRecOn with|ind i ih=>intro hi;cases an:bJ.getD i false with|true=>rfl|false=>
    exfalso;have hm:i∈Region.ready .any ops.toArray bJ:=by
     refine mem_ready.2 ⟨?_,ops[i],by simp[hi],λe he hb=>?_⟩;.have af:i<bJ.size:=om;simpa[Array.getD,af]using an
     .unfold rX at av;simp only[Aj,D4]at av;have:=av i hi;rw[A0 hi]at this;simp only[Cj]at this;have:=this e he;simp only[hb,Bool.not_true,Bf,ahS]at this;exact ih e.on this om
    rw[hr]at hm;cases hm
 intro fuel;induction fuel with
 |zero=>
  intro bJ a w L I ai aA ao hs;have ab:∀i,i<ops.length->bJ.getD i false:=by intro i hi;have af:i<bJ.size:=om;cases an:bJ[i]with|true=>simp[Array.getD,af,an]|false=>
    exfalso;have:false∈bJ.toList:=by rw[<-an];simp
    have:=List.count_pos_iff.2 this;omega
  refine⟨?_,fin bJ a w L I hs ab⟩;cases hr:Region.ready .any ops.toArray bJ with|nil=>rfl|cons i l=>
   exfalso;have hm:i∈Region.ready .any ops.toArray bJ:=by rw[hr];simp
   obtain⟨h1,o,ho,_⟩:=mem_ready.1 hm;have hi:i<ops.length:=(A5.1 (sU ho)).1;have:=ab i hi;have af:i<bJ.size:=om;simp[Array.getD,af]at this h1;rw[this]at h1;cases h1
 |succ fuel ih=>
  intro bJ a w L I ai aA ao hs;refine⟨λhr=>fin bJ a w L I hs (ax bJ ai hr),λi hi=>?_⟩;obtain⟨h1,o,ho,ay⟩:=mem_ready.1 hi;have aa:ops[i]?=some o:=sU ho;have af:i<bJ.size:=by rw[ai];exact(A5.1 aa).1
  have aq:bJ.getD i false=false:=by simp[Array.getD,af]at h1⊢;exact h1
  have ah:∀k,k≠i->(bJ.setIfInBounds i true).getD k false=bJ.getD k false:=λk hk=>getD_set_ne false (λq=>hk q.symm);have az:(bJ.setIfInBounds i true).getD i false:=by simp[Array.getD,af]
  have au:∀(j:Nat) o,ops[j]?=some o->(bJ.setIfInBounds i true).getD j false=true->∀e∈o.after.toList,Region.binds .any e=true->(bJ.setIfInBounds i true).getD e.on false=true:=by
   intro j o' hj aB e he hb;by_cases aC:j=i;.subst aC;rw[aa]at hj;cases hj;exact getD_set_true (ay e (sU he) hb)
   .rw[ah j aC]at aB;exact getD_set_true (ao j o' hj aB e he hb)
  have ahead:∀{k:Nat},k≠i->k∈(fW ops []).getD i []->bJ.getD k false=true:=λ{k}hk hb=>by have:=DE (D:=λj=>(bJ.setIfInBounds i true).getD j false) au hb az;rwa[ah k hk]at this
  have nD:∀{k:Nat},i∈(fW ops []).getD k []->bJ.getD k false=false:=λ{k}hb=>by cases hk:bJ.getD k false with|false=>rfl|true=>have:=DE (D:=λj=>bJ.getD j false) ao hb hk;rw[aq]at this;cases this
  obtain⟨v,U',aD,aj⟩:=aI i o aa;rw[Ab]at aj;have aE:∀t∈o8 ops o,fE (λi=>bJ.getD i false) 0 ops tr e0 t=fE (λj=>decide (j<i)) 0 ops tr e0 t:=by
   intro t aw;refine qK _ _ t ops tr 0 e0 e0 rfl λk o' hk ae=>?_;rw[Ab];rcases Ba k i with ad|ad|ad
   .rw[ahR ad];rcases vU hd ad hk aa with hc|hb;.exact absurd aw ((xD hc).2.1 t ae).1
    .exact ahead om hb
   .subst ad;rw[aq];simp
   .rw[ahQ om];rcases vU hd ad aa hk with hc|hb;.exact absurd aw ((xD hc).2.2 t ae)
    .exact nD hb
  have ar:2<=zX q i o->fS (λi=>bJ.getD i false) q 0 ops tr cd=fS (λj=>decide (j<i)) q 0 ops tr cd:=by
   intro ag;refine th _ _ q ops tr 0 cd λk o' hk ae=>?_;rw[Ab]at ae⊢;rcases Ba k i with ad|ad|ad
   .rw[ahR ad];rcases vU hd ad hk aa with hc|hb;.have:=(xD hc).1;rw[AG ae (wS _ _ _) ag (wS _ _ _)]at this;cases this
    .exact ahead om hb
   .subst ad;rw[aq];simp
   .rw[ahQ om];rcases vU hd ad aa hk with hc|hb;.have:=(xD hc).1;rw[Jo,AG ae (wS _ _ _) ag (wS _ _ _)]at this;cases this
    .exact nD hb
  have aF:zX q i o=1->n0.of (fS (λi=>bJ.getD i false) q 0 ops tr cd)=n0.of (fS (λj=>decide (j<i)) q 0 ops tr cd):=by
   intro aG;have pre:∀N,N<=ops.length->∃m,m<=N/\∀k o',k<N->ops[k]?=some o'->3<=zX q k o'->bJ.getD k false=decide (k<m):=by intro N;induction N with |zero=>exactλ_=>⟨0,A6 _,λk o' h=>om⟩|succ N aJ=>
     intro hN;obtain⟨m,hm,ab⟩:=aJ om;have aH:=A0 (show N<ops.length by omega);by_cases hw:3<=zX q N (ops[N]'om)/\bJ.getD N false=true
     .refine⟨N+1,A6 _,λk o' hk ak h3=>?_⟩;rw[ahR hk];by_cases a1:k=N;.subst a1;exact hw.2
      .rcases vU hd (show k<N by omega) ak aH with hc|hb;.have:=(xD hc).1;rw[AG h3 (wS _ _ _) om (wS _ _ _)]at this;cases this
       .exact DE (D:=λj=>bJ.getD j false) ao hb hw.2
     .refine⟨m,om,λk o' hk ak h3=>?_⟩;by_cases a1:k=N;.subst a1;rw[aH]at ak;cases ak;rw[ahQ om];cases hl:bJ.getD k false with|false=>rfl|true=>exact absurd ⟨h3,hl⟩ hw
      .exact ab k o' om ak h3
   obtain⟨m,hm,ab⟩:=pre ops.length (A6 _);have e1:fS (λi=>bJ.getD i false) q 0 ops tr cd=fS (λx=>decide (x<m)) q 0 ops tr cd:=th _ _ q ops tr 0 cd λk o' hk h3=>by rw[Ab]at h3⊢;exact ab k o' (A5.1 hk).1 hk h3
   rw[e1];have aP:i<ops.length:=(A5.1 aa).1
   rcases Nat.le_total m i with aK|aK;.have:=(Jq ht hn (i-m) m om (λk o' h5 h6 hk h4=>by
     have h7:=ab k o' (A5.1 hk).1 hk om;rw[ahQ om]at h7;rcases vU hd (show k<i by omega) hk aa with hc|hb;.have:=(xD hc).1;rw[h4,aG,Jp dc]at this;cases this
     .rw[ahead om hb]at h7;cases h7)).2;rw[show m+(i-m)=i by omega]at this;exact this.symm
   .have:=(Jq ht hn (m-i) i om (λk o' h5 h6 hk h4=>by
     have h7:=ab k o' (A5.1 hk).1 hk om;rw[ahR om]at h7;have ad:k≠i:=λqq=>by subst qq;rw[hk]at aa;cases aa;omega
     rcases vU hd (show i<k by omega) aa hk with hc|hb;.have:=(xD hc).1;rw[Jo,h4,aG,Jp dc]at this;cases this
     .rw[nD hb]at h7;cases h7)).2;rw[show i+(m-i)=m by omega]at this;exact this
  have aL:=Jn (ops:=ops) (Q:=fo c nt Q) (next:=wpAny P .any ops.toArray (fo c nt Q) fuel (bJ.setIfInBounds i true)) o hs (aj.step aE ar aF) (by
   rintro e' s' a' w' L' I' aQ ⟨rfl,rfl⟩
   refine ih _ a' w' L' I' (sU ai) ?_ au ?_;.have:=Qx (l:=bJ) (i:=i) (by rw[Az af];have:=aq;simp[Array.getD,af]at this;rw[this]);omega
   .have e1:fP (fE (λi=>bJ.getD i false) 0 ops tr e0) o.dst v=fE (λk=>(bJ.setIfInBounds i true).getD k false) 0 ops tr e0:=by
     funext t;by_cases al:o.dst=some t
     .rw[AB _ _ _ _ al];refine(DD _ t ops tr 0 i e0 o v U' aa aD al (by rw[Ab];exact az) λk' o' a6 a7 a8=>?_).symm;rw[Ab,ah k' om];rcases vU hd a6 aa a7 with hc|hb;.exact absurd a8 ((xD hc).2.1 t al).2
      .exact nD hb
     .rw[AD _ _ _ _ al];refine qK _ _ t ops tr 0 e0 e0 rfl λk o' hk ae=>?_;rw[Ab];refine(ah k λq=>?_).symm;subst q;rw[aa]at hk;cases hk;exact al ae
    have e2:(if 3<=zX q i o then U' else fS (λi=>bJ.getD i false) q 0 ops tr cd)=fS (λk=>(bJ.setIfInBounds i true).getD k false) q 0 ops tr cd:=by
     split
     .rename_i ag;refine(Fy _ q ops tr 0 i cd o v U' aa aD (by rw[Ab];exact ag) (by rw[Ab];exact az) λk' o' a6 a7 a8=>?_).symm;rw[Ab]at a8⊢;rw[ah k' om];rcases vU hd a6 aa a7 with hc|hb;.have:=(xD hc).1;rw[AG ag (wS _ _ _) om (wS _ _ _)]at this;cases this
      .exact nD hb
     .rename_i ag;refine th _ _ q ops tr 0 cd λk o' hk ae=>?_;rw[Ab]at ae⊢;refine(ah k λq=>?_).symm;subst q;rw[aa]at hk;cases hk;exact ag ae
    grind);grind[wpOp]
theorem VW.draw{id:Nat}{Q:Exit->Env->St->Prop}{e:Env}{U:St}(hm:P.follows .mixedOrders)(hn:n0.n<=U.length)(hd:uH ops q)(aa:rX ops)(ht:o9 P c nt n0 ops q 0 ops e U tr)(hQ:Q .normal (fE (λ_=>true) 0 ops tr e) (fS (λ_=>true) q 0 ops tr U)):VW P c nt (.region id ops.toArray true) Q e U:=by
 intro a w L I hs;refine wp_region_any hm ?_;have hg:∀j,(Array.replicate ops.toArray.size false).getD j false=false:=(by simp[Array.getD]);have e1:fE (λi=>(Array.replicate ops.toArray.size false).getD i false) 0 ops tr e=e:=by funext t;grind[Jm]
 have e2:fS (λi=>(Array.replicate ops.toArray.size false).getD i false) q 0 ops tr U=U:=(by grind[AE]);refine Jr hn hd aa ht hQ _ _ a w.drew L I sm sm (by grind) ?_;rw[e1,e2];obtain⟨ab,hle⟩:=hs.mem.drew;exact⟨ab,hs.size,hs.defs,λt=>(hs.env t).mono hle (Ext.refl _ _)⟩
end
def qM:R->Bool|.st ..|.dp ..=>true|_=>false
def vV:R->Bool|.all _|.any _=>true|_=>false
def jo(n0:Kp)(k:Nat)(U:St):R->Prop|.st _ U'|.dp _ _ U'=>U.length<=U'.length/\(k=3->gL n0 U U')|_=>True
def ft(P:Program)(c:Ctx)(nt:Nat)(n0:Kp)(k:Nat)(d:Option Tmp)(op:Op)(K:KT)(e:Env)(U:St):Prop:=match op with |.call ⟨.value f,args,_⟩=>∃v U',(if k=0then∀s,VC P c (zI e f) (args.toList.map (zI e)) s (λr s'=>r=v/\s'=s)else if k=1then∀s,n0.of s=n0.of U->VC P c (zI e f) (args.toList.map (zI e)) s (λr s'=>r=v/\s'=s)else VC P c (zI e f) (args.toList.map (zI e)) U (λr s=>r=v/\s=U'))/\(k<3->U'=U)/\(k=3->gL n0 U U')/\U.length<=U'.length/\eV nt d v K e U'|op=>(k<3->cK P d e op)/\vV (xP P d e U op)=false/\(k=0->l9 op=0)/\(k=1->(∃t x,op=.load t x/\DC n0 (zI e x)=true)\/(∀t x,op≠.load t x)/\∀s,n0.of s=n0.of U->bZ P e s op=bZ P e U op)/\(qM (xP P d e U op)=true->3<=k)/\jo n0 k U (xP P d e U op)/\mA nt d (xP P d e U op) K e U
def rY(P:Program)(c:Ctx)(nt:Nat)(n0:Kp)(ops:List Oper)(q:List (Nat×Nat)):Nat->List Oper->KT->Env->St->Prop |_,[],K,e,U=>K e U|i,o::os,K,e,U=>uB o.guard ops e (ft P c nt n0 (zX q i o) o.dst o.op (rY P c nt n0 ops q (i+1) os K) e U) (eV nt o.dst (.cm []) (rY P c nt n0 ops q (i+1) os K) e U)
section
variable{P:Program}{c:Ctx}{nt:Nat}{n0:Kp}
variable{x:Operand}{t:TypeId}{op:Op}{f:FuncId}{bY:List V}{cc:List V}{KV:V->St->Prop}{ops:List Oper}{i:Nat}{n:Nat}{y:Operand}{s1:St}{q:List (Nat×Nat)}{l:Array (Nat×Operand)}{ts:Array TypeId}
theorem L8{d:Option Tmp}{v:V}{K:KT}{e:Env}{U:St}(h:eV nt d v K e U):(∀t,d=some t->t<nt)/\K (fP e d v) U:=by cases d<;>simpa
theorem DF{ops:List Oper}{q:List (Nat×Nat)}:∀(os:List Oper)(i:Nat)(K:KT)(e:Env)(U:St),rY P c nt n0 ops q i os K e U->∃tr,o9 P c nt n0 ops q i os e U tr/\K (fE (λ_=>true) i os tr e) (fS (λ_=>true) q i os tr U)
 |[],i,K,e,U,h=>⟨[],tV,h⟩|o::os,i,K,e,U,h=>by
  have go:∀(v:V)(U':St),Fact P c nt n0 ops q i o e U v U'->rY P c nt n0 ops q (i+1) os K (fP e o.dst v) U'->∃tr,o9 P c nt n0 ops q i (o::os) e U tr/\K (fE (λ_=>true) i (o::os) tr e) (fS (λ_=>true) q i (o::os) tr U):=by
   intro v U' hf hk;obtain⟨tr,ht,hK⟩:=DF os (i+1) K _ _ hk;refine⟨(v,U')::tr,⟨hf,ht⟩,?_⟩;rw[fE,fS,ahP rfl];have:(if((λ_=>true) i&&decide (3<=zX q i o))=true then U' else U)=U':=by
    by_cases h2:3<=zX q i o;.grind
    .rw[ahO (by simp[h2])];exact(hf.2.1 om).symm
   grind
  have yes:(match o.guard with|none=>True|some (j,want)=>∃t b,kf ops j=some t/\e t=.bool b/\b=want)->ft P c nt n0 (zX q i o) o.dst o.op (rY P c nt n0 ops q (i+1) os K) e U->∃tr,o9 P c nt n0 ops q i (o::os) e U tr/\K (fE (λ_=>true) i (o::os) tr e) (fS (λ_=>true) q i (o::os) tr U):=by
   intro hg hv;have af:∃g:Bool,(match o.guard with|none=>g=true|some (j,want)=>∃t,kf ops j=some t/\((∃b,e t=.bool b/\g=(b==want))\/(e t=.cm []/\g=false)))/\g=true:=by refine⟨true,?_,rfl⟩;grind
   obtain⟨g,ab,rfl⟩:=af;unfold ft at hv;split at hv;.rename_i f args ts ai;obtain⟨v,U',aj,ag,h3,hlen,hp⟩:=hv;obtain⟨hd,hk⟩:=L8 hp;refine go v U' ⟨hd,ag,h3,hlen,true,ab,?_⟩ hk;grind
   .rename_i ak;obtain⟨al,ad,hz,an,ae,aa,hv⟩:=hv;have done:∀v U',(zX q i o<3->U'=U)->(zX q i o=3->gL n0 U U')->U.length<=U'.length->((xP P o.dst e U o.op=.ok v/\U'=U)\/(∃p,xP P o.dst e U o.op=.eF p v/\p/\U'=U)\/(3<=zX q i o/\(xP P o.dst e U o.op=.st v U'\/∃p,xP P o.dst e U o.op=.dp p v U'/\p)))->eV nt o.dst v (rY P c nt n0 ops q (i+1) os K) e U'->∃tr,o9 P c nt n0 ops q i (o::os) e U tr/\K (fE (λ_=>true) i (o::os) tr e) (fS (λ_=>true) q i (o::os) tr U):=by intro v U' h2 h3 hlen hf hp;obtain⟨hd,hk⟩:=L8 hp;refine go v U' ⟨hd,h2,h3,hlen,true,ab,?_⟩ hk;grind
    cases hr:xP P o.dst e U o.op with |all f=>rw[hr]at ad;trivial|any l=>rw[hr]at ad;trivial|fail=>rw[hr]at hv;trivial|ok v=>rw[hr]at hv;exact done v U sm (λ_=>gL.refl) om (by grind) hv|eF p v=>rw[hr]at hv;exact done v U sm (λ_=>gL.refl) om (.inr (.inl ⟨p,hr,hv.1,rfl⟩)) hv.2|st v U'=>rw[hr]at hv aa;have h3:=ae (by rw[hr];rfl);exact done v U' om aa.2 aa.1 (by grind) hv|dp p v U'=>rw[hr]at hv aa;have h3:=ae (by rw[hr];rfl);exact done v U' om aa.2 aa.1 (.inr (.inr ⟨h3,.inr ⟨p,hr,hv.1⟩⟩)) hv.2
  have no:(∃j want t,o.guard=some (j,want)/\kf ops j=some t/\((∃b,e t=.bool b/\b≠want)\/e t=.cm []))->eV nt o.dst (.cm []) (rY P c nt n0 ops q (i+1) os K) e U->∃tr,o9 P c nt n0 ops q i (o::os) e U tr/\K (fE (λ_=>true) i (o::os) tr e) (fS (λ_=>true) q i (o::os) tr U):=by rintro⟨j,want,t,hg,h1,h2⟩hv;obtain⟨hd,hk⟩:=L8 hv;refine go (.cm []) U ⟨hd,λ_=>rfl,λ_=>gL.refl,om,false,?_,?_⟩ hk;all_goals grind
  unfold rY uB at h;split at h;.grind
  .rename_i j want hg;split at h
   .rename_i t ht;unfold kT at h;split at h
    .rename_i b hb;by_cases ah:b=want;.grind
     .exact no (by grind) (h.2 ah)
    .rename_i hb;exact no (by grind) h
    grind
   grind
def rZ(P:Program)(c:Ctx)(nt:Nat)(n0:Kp)(ops:List Oper)(q:List (Nat×Nat))(i:Nat)(l:List Oper)(K:KT)(_:Fx ops)(_:Fx l)(_:Fx K)(e:Env)(U:St):Prop:=rY P c nt n0 ops q i l K e U
def ez(P:Program)(c:Ctx)(nt:Nat)(n0:Kp)(k:Nat)(d:Option Tmp)(op:Op)(K:KT)(_:Fx op)(_:Fx K)(e:Env)(U:St):Prop:=ft P c nt n0 k d op K e U
def qN(P:Program)(c:Ctx)(n0:Kp)(k:Nat)(fv:V)(az:List V)(U:St)(K:V->St->Prop)(_:Fx K):Prop:=∃v U',(if k=0then∀s,VC P c fv az s (λr s'=>r=v/\s'=s)else if k=1then∀s,n0.of s=n0.of U->VC P c fv az s (λr s'=>r=v/\s'=s)else VC P c fv az U (λr s=>r=v/\s=U'))/\(k<3->U'=U)/\(k=3->gL n0 U U')/\U.length<=U'.length/\K v U'
theorem yB{id:Nat}{Q:QT}{e:Env}{U:St}(q:List (Nat×Nat))(n0:Nat)(hn:U.length=n0)(hm:P.follows .mixedOrders)(hd:(uH ops q&&rX ops))(h:rZ P c nt (Kp.pre n0) ops q 0 ops (Q .normal) fx fx fx e U):ga P c nt (.region id ops.toArray true) Q fx fx e U:=by simp only[A8]at hd;obtain⟨tr,ht,hK⟩:=DF ops 0 (Q .normal) e U h;exact VW.draw (n0:=Kp.pre n0) hm (by grind) hd.1 hd.2 ht hK
def L9(q:List (Nat×Nat))(i:Nat)(op:Op):Nat:=match q.find? (·.1==i)with|some p=>min p.2 4|none=>l9 op
variable{e:Env}{U:St}{K:KT}{Q:QT}{d:Option Tmp}{k:Nat}
@[go_sem]theorem Js:rZ P c nt n0 ops q i [] K fx fx fx e U=K e U:=id rfl
@[go_sem]theorem G8{rest:List Oper}{ty:TypeId}{pos:String}{dU:Array Edge}:rZ P c nt n0 ops q i (⟨d,op,ty,pos,dU,none⟩::rest) K fx fx fx e U=ez P c nt n0 (L9 q i op) d op (rZ P c nt n0 ops q (i+1) rest K fx fx fx) fx fx e U:=id rfl
@[go_sem]theorem FA{rest:List Oper}{ty:TypeId}{pos:String}{dU:Array Edge}{j:Nat}{want:Bool}:rZ P c nt n0 ops q i (⟨d,op,ty,pos,dU,some (j,want)⟩::rest) K fx fx fx e U=CG (td ops fx j) want e (ez P c nt n0 (L9 q i op) d op (rZ P c nt n0 ops q (i+1) rest K fx fx fx) fx fx e U) (iQ nt d (.cm []) (rZ P c nt n0 ops q (i+1) rest K fx fx fx) fx e U) fx fx:=id rfl
attribute [go_sem] L9 DC
theorem FB(op:Op)(h:l9 op<3):qM (bZ P e U op)=false:=by cases op with
 |call cl=>obtain⟨aa,⟨args⟩,ts⟩:=cl;cases aa with
  |builtin b=>
   cases b;case len=>simp only[bZ];split<;>first|rfl|(rename_i heq;simp at heq;done)|(unfold yp;(repeat' split)<;>rfl)
   case min=>simp only[bZ];unfold qp;(repeat' split)<;>rfl
   case max=>simp only[bZ];unfold qp;(repeat' split)<;>rfl
   all_goals trivial|_=>rfl
 |slice t x lo hi mx=>cases lo<;>cases hi<;>cases mx<;>simp only[bZ]<;>first|rfl|(unfold sQ;(repeat' split)<;>rfl)|(unfold yw;(repeat' split)<;>rfl)
 |move x=>rfl|assign x=>rfl|pick x y z=>simp only[bZ];unfold yj;(repeat' split)<;>rfl|build t ps=>simp only[bZ];unfold yt;(repeat' split)<;>rfl|buildSlice t n ps=>simp only[bZ];unfold uw;(repeat' split)<;>rfl|nilCheck x=>simp only[bZ];unfold yl;(repeat' split)<;>rfl|binOp o t x y t'=>simp only[bZ];unfold vy GA zb oA BT BU;(repeat' split)<;>rfl|unOp o t x=>simp only[bZ];unfold nw;(repeat' split)<;>rfl|convert t t' x=>simp only[bZ];unfold vF;(repeat' split)<;>rfl|fieldAddr t x f=>simp only[bZ];unfold yn;(repeat' split)<;>rfl|field t x f=>simp only[bZ];unfold yy;(repeat' split)<;>rfl|indexAddr t x i=>simp only[bZ];unfold vD;(repeat' split)<;>rfl|index t x i=>simp only[bZ];unfold vE;(repeat' split)<;>rfl|extract x i=>simp only[bZ];unfold ym;(repeat' split)<;>rfl|makeFunc fn l m=>simp only[bZ];unfold yz;(repeat' split)<;>rfl|load t x=>simp only[bZ];unfold nx;(repeat' split)<;>first|rfl|(unfold rQ;(repeat' split)<;>rfl)
 |_=>first|(simp[l9]at h;done)|rfl
theorem uK(op:Op)(h:∀o t x y t',op≠.binOp o t x y t'):vV (bZ P e U op)=false:=by cases op with
 |call cl=>obtain⟨aa,⟨args⟩,ts⟩:=cl;cases aa with
  |builtin b=>
   cases b;case len=>simp only[bZ];split<;>first|rfl|(rename_i heq;simp at heq;done)|(unfold yp;(repeat' split)<;>rfl)
   case append=>simp only[bZ];split<;>first|rfl|(rename_i heq;simp at heq;done)|(unfold sN;(repeat' split)<;>rfl)
   case clear=>simp only[bZ];split<;>first|rfl|(rename_i heq;simp at heq;done)|(unfold vI;(repeat' split)<;>rfl)
   case delete=>simp only[bZ];split<;>first|rfl|(rename_i heq;simp at heq;done)|(unfold za;(repeat' split)<;>rfl)
   case min=>simp only[bZ];unfold qp;(repeat' split)<;>rfl
   case max=>simp only[bZ];unfold qp;(repeat' split)<;>rfl
   all_goals rfl|_=>rfl
 |slice t x lo hi mx=>cases lo<;>cases hi<;>cases mx<;>simp only[bZ]<;>first|rfl|(unfold sQ;(repeat' split)<;>rfl)|(unfold yw;(repeat' split)<;>rfl)
 |pick x y z=>simp only[bZ];unfold yj;(repeat' split)<;>rfl|alloc t=>simp only[bZ];unfold rR;(repeat' split)<;>rfl|box t x=>simp only[bZ];unfold vC;(repeat' split)<;>rfl|store t x y=>simp only[bZ];unfold vz;(repeat' split)<;>rfl|makeSlice t l m=>simp only[bZ];unfold vG;(repeat' split)<;>rfl|build t ps=>simp only[bZ];unfold yt;(repeat' split)<;>rfl|buildSlice t n ps=>simp only[bZ];unfold uw;(repeat' split)<;>rfl|nilCheck x=>simp only[bZ];unfold yl;(repeat' split)<;>rfl|binOp o t x y t'=>grind|unOp o t x=>simp only[bZ];unfold nw;(repeat' split)<;>rfl|convert t t' x=>simp only[bZ];unfold vF;(repeat' split)<;>rfl|fieldAddr t x f=>simp only[bZ];unfold yn;(repeat' split)<;>rfl|field t x f=>simp only[bZ];unfold yy;(repeat' split)<;>rfl|indexAddr t x i=>simp only[bZ];unfold vD;(repeat' split)<;>rfl|index t x i=>simp only[bZ];unfold vE;(repeat' split)<;>rfl|extract x i=>simp only[bZ];unfold ym;(repeat' split)<;>rfl|makeFunc fn l m=>simp only[bZ];unfold yz;(repeat' split)<;>rfl|load t x=>simp only[bZ];unfold nx;(repeat' split)<;>first|rfl|(unfold rQ;(repeat' split)<;>rfl)
 |makeMap t r=>simp only[bZ];unfold y8;(repeat' split)<;>rfl|lookup t x k ok=>simp only[bZ];unfold wI;(repeat' split)<;>rfl|mapUpdate t x k v=>simp only[bZ];unfold wG;(repeat' split)<;>rfl|insert t x k v=>simp only[bZ];unfold wG;(repeat' split)<;>rfl|range t x=>simp only[bZ];unfold zc;(repeat' split)<;>rfl|entry x=>simp only[bZ];unfold qx;(repeat' split)<;>rfl|makeInterface t x=>simp only[bZ];unfold ze;(repeat' split)<;>rfl|mapEntry t x k=>simp only[bZ];unfold wN;(repeat' split)<;>rfl|entryStore t x k v=>simp only[bZ];unfold wB;(repeat' split)<;>rfl|next x b=>cases b<;>simp only[bZ]<;>first|rfl|(unfold nA;(repeat' split)<;>first|rfl|contradiction)
 |_=>rfl
theorem AH{r:R}(h:qM r=false):jo n0 k U r:=by cases r<;>first|trivial|cases h
theorem tj(hA:∀o t x y t',op≠.binOp o t x y t')(hL:∀e U,gX P e U op=bZ P e U op)(h:l9 op=0)(hc:∀f az ts,op≠.call ⟨.value f,az,ts⟩):ez P c nt n0 0 d op K fx fx e U=ef P c nt d op K fx fx e U:=by
 show ft P c nt n0 0 d op K e U=jg P c nt d op K e U;have hh:cK P d e op:=.inr hL;unfold ft jg;split;.grind
 .have:=FB (P:=P) (e:=e) (U:=U) op om;split;.grind
  grind[AH,qJ,uK]
theorem Ma(hA:∀o t x y t',op≠.binOp o t x y t')(h:l9 op=0)(hc:∀f az ts,op≠.call ⟨.value f,az,ts⟩):ez P c nt n0 0 d op K fx fx e U=tc (cK P d e op) (ef P c nt d op K fx fx e U) fx:=by
 show ft P c nt n0 0 d op K e U=(cK P d e op/\jg P c nt d op K e U);by_cases hh:cK P d e op
 .unfold ft jg;split;.grind
  .have:=FB (P:=P) (e:=e) (U:=U) op om;split;.grind
   grind[AH,qJ,uK]
 .unfold ft;grind
@[go_sem]theorem Qy(h:l7 e d=false):cK P d e op=True:=by grind[cK]
theorem Mb:cK P d e (.load t x):=.inr λ_ _=>rfl
theorem Yk:ez P c nt n0 1 d (.load t x) K fx fx e U=tc (DC n0 (zI e x)=true) (ef P c nt d (.load t x) K fx fx e U) fx:=by
 show ft P c nt n0 1 d (.load t x) K e U=(_/\jg P c nt d (.load t x) K e U);have:=FB (P:=P) (e:=e) (U:=U) (.load t x) (show 1<3by omega);have h2:jo n0 1 U (bZ P e U (.load t x)):=AH this;have hA:=uK (P:=P) (e:=e) (U:=U) (.load t x) (λ_ _ _ _ _ h=>by cases h);simp only[ft,jg,this,h2,qJ Mb,hA];refine propext ⟨λh=>?_,λh=>?_⟩;.grind
 .exact⟨λ_=>Mb,tV,om,(by grind),sm,tV,h.2⟩
theorem Yl:ez P c nt n0 2 d (.load t x) K fx fx e U=ef P c nt d (.load t x) K fx fx e U:=by show ft P c nt n0 2 d (.load t x) K e U=jg P c nt d (.load t x) K e U;have:=FB (P:=P) (e:=e) (U:=U) (.load t x) (show 1<3by omega);grind[AH,uK,ft,jg,qJ,Mb]
theorem Mc:jo n0 4 U (bZ P e U op):=by
 by_cases h:l9 op<3;.grind[AH,FB]
 .cases op with
  |alloc t=>simp only[bZ];unfold rR;(repeat' split)<;>first|trivial|exact⟨sm,om⟩
  |box t x=>simp only[bZ];unfold vC;(repeat' split)<;>first|trivial|exact⟨sm,om⟩
  |store t x y=>simp only[bZ];unfold vz;(repeat' split)<;>first|trivial|exact⟨sm,om⟩
  |makeSlice t l m=>simp only[bZ];unfold vG;(repeat' split)<;>first|trivial|exact⟨sm,om⟩
  |makeMap t r=>simp only[bZ];unfold y8;(repeat' split)<;>first|trivial|exact⟨sm,om⟩
  |lookup t x k ok=>simp only[bZ];unfold wI;(repeat' split)<;>trivial|mapUpdate t x k v=>simp only[bZ];unfold wG;(repeat' split)<;>first|trivial|exact⟨sm,om⟩
  |insert t x k v=>simp only[bZ];unfold wG;(repeat' split)<;>first|trivial|exact⟨sm,om⟩
  |range t x=>simp only[bZ];unfold zc;(repeat' split)<;>first|trivial|exact⟨sm,om⟩
  |entry x=>simp only[bZ];unfold qx;(repeat' split)<;>trivial|makeInterface t x=>simp only[bZ];unfold ze;(repeat' split)<;>trivial|mapEntry t x k=>simp only[bZ];unfold wN;(repeat' split)<;>first|trivial|exact⟨sm,om⟩
  |entryStore t x s v=>simp only[bZ];unfold wB;(repeat' split)<;>first|trivial|exact⟨sm,om⟩
  |next x b=>cases b<;>simp only[bZ]<;>first|trivial|(unfold nA;(repeat' split)<;>first|trivial|exact⟨sm,om⟩)
  |call cl=>obtain⟨aa,⟨args⟩,ts⟩:=cl;cases aa with
   |builtin b=>
    cases b;case append=>simp only[bZ];split<;>first|trivial|(rename_i heq;simp at heq;done)|(unfold sN;(repeat' split)<;>first|trivial|exact⟨sm,om⟩)
    case clear=>simp only[bZ];split<;>first|trivial|(rename_i heq;simp at heq;done)|(unfold vI;(repeat' split)<;>first|trivial|exact⟨sm,om⟩)
    case delete=>simp only[bZ];split<;>first|trivial|(rename_i heq;simp at heq;done)|(unfold za;(repeat' split)<;>first|trivial|exact⟨sm,om⟩)
    all_goals first|(simp[l9]at h;done)|trivial
   |_=>trivial
  |slice t x lo hi mx=>grind[l9]|_=>first|(simp[l9]at h;done)|trivial
theorem Md(op:Op)(hA:∀o t x y t',op≠.binOp o t x y t')(hN:∀x b,op≠.next x b):vV (gX P e U op)=false:=by have h:=uK (P:=P) (e:=e) (U:=U) op hA;cases op with
 |buildSlice t n ps=>simp only[gX];unfold uy;(repeat' split)<;>rfl|makeSlice t l m=>simp only[gX];unfold vH;(repeat' split)<;>rfl|convert t t' x=>simp only[gX];unfold y4;(repeat' split)<;>rfl|slice t x lo hi mx=>cases lo with |none=>exact h|some lo=>cases hi with |some _=>exact h|none=>cases mx with |some _=>exact h|none=>simp only[gX];unfold yu;(repeat' split)<;>rfl
 |next x b=>grind|call cl=>obtain⟨aa,⟨args⟩,ts⟩:=cl;cases aa with
  |builtin b=>
   cases b;case append=>simp only[gX];split<;>first|exact h|(rename_i heq;simp at heq;done)|(unfold sO;(repeat' split)<;>rfl)
   all_goals simpa|_=>exact h
 |_=>exact h
theorem Ym:jo n0 4 U (gX P e U op):=by have h:jo n0 4 U (bZ P e U op):=Mc;cases op with
 |buildSlice t n ps=>simp only[gX];unfold uy;(repeat' split)<;>first|trivial|exact⟨sm,om⟩
 |makeSlice t l m=>simp only[gX];unfold vH;(repeat' split)<;>first|trivial|exact⟨sm,om⟩
 |convert t t' x=>simp only[gX];unfold y4;(repeat' split)<;>first|trivial|exact⟨sm,om⟩
 |slice t x lo hi mx=>cases lo with|none=>exact h|some lo=>cases hi with |some _=>exact h|none=>cases mx with |some _=>exact h|none=>simp only[gX];unfold yu;(repeat' split)<;>first|trivial|exact⟨sm,om⟩
 |next x b=>cases b<;>simp only[gX]<;>first|exact h|(unfold nA;(repeat' split)<;>first|trivial|exact⟨sm,om⟩)
 |call cl=>obtain⟨aa,⟨args⟩,ts⟩:=cl;cases aa with
  |builtin b=>
   cases b;case append=>simp only[gX];split<;>first|exact h|(rename_i heq;simp at heq;done)|(unfold sO;(repeat' split)<;>first|trivial|exact⟨sm,om⟩)
   all_goals simpa|_=>exact h
 |_=>exact h
theorem Me(hA:∀o t x y t',op≠.binOp o t x y t')(hN:∀x b,op≠.next x b)(hc:∀f az ts,op≠.call ⟨.value f,az,ts⟩):ez P c nt n0 4 d op K fx fx e U=ef P c nt d op K fx fx e U:=by
 show ft P c nt n0 4 d op K e U=jg P c nt d op K e U;have h1:vV (xP P d e U op)=false:=by grind[xP,Md,uK]
 have h2:jo n0 4 U (xP P d e U op):=by grind[xP,Ym,Mc]
 unfold ft jg;grind
theorem Jt(hA:∀o t x y t',op≠.binOp o t x y t')(hN:∀x b,op≠.next x b)(_:∀e U,gX P e U op=bZ P e U op)(hc:∀f az ts,op≠.call ⟨.value f,az,ts⟩):ez P c nt n0 4 d op K fx fx e U=ef P c nt d op K fx fx e U:=Me hA hN hc
@[go_sem]theorem qP:ez P c nt n0 3 d (.buildSlice t n l) K fx fx e U=ef P c nt d (.buildSlice t n l) K fx fx e U:=by
 show ft P c nt n0 3 d (.buildSlice t n l) K e U=jg P c nt d (.buildSlice t n l) K e U;have h1:vV (xP P d e U (.buildSlice t n l))=false:=by unfold xP;split;all_goals simp[Md,uK]
 have h2:jo n0 3 U (xP P d e U (.buildSlice t n l)):=by
  unfold xP;split;.simp only[gX];unfold uy;(repeat' split)<;>first|trivial|exact⟨sm,λ_=>.inl ⟨_,rfl⟩⟩
  .simp only[bZ];unfold uw;(repeat' split)<;>trivial
 grind[ft,jg]
theorem Ju(hA:∀o t x y t',op≠.binOp o t x y t')(hL:∀e U,gX P e U op=bZ P e U op)(h2:jo n0 3 U (bZ P e U op))(hc:∀f az ts,op≠.call ⟨.value f,az,ts⟩):ez P c nt n0 3 d op K fx fx e U=ef P c nt d op K fx fx e U:=by
 show ft P c nt n0 3 d op K e U=jg P c nt d op K e U;have hh:cK P d e op:=.inr hL;unfold ft jg;split;.grind
 .split;.grind
  grind[qJ,uK]
def Kp.out(k:Kp)(id:Nat):Bool:=(decide (id<k.x)&&k.ob.isNone)||decide (k.n<=id)
@[go_sem]theorem Kp.Jv{id:Nat}:(Kp.mk 0 n [] none).out id=decide (n<=id):=by rfl
@[go_sem]theorem Kp.Jw{x id:Nat}:(Kp.mk (x+1) n [] none).out id=(decide (id<x+1)||decide (n<=id)):=by simp[Kp.out]
def nD(n0:Kp):V->Bool|.ptr id _=>n0.out id|.jj id _ _ _ _=>n0.out id|_=>false
attribute [go_sem] nD
@[go_sem]theorem AI(h:nD n0 (zI e x)):ez P c nt n0 3 d (.store t x y) K fx fx e U=ef P c nt d (.store t x y) K fx fx e U:=Ju sm (λ_ _=>rfl) (by
  simp only[bZ];unfold vz;split;.rename_i id off hx;rw[hx]at h;have h:n0.out id:=h;simp only[Kp.out,Ce,A8,Option.isNone_iff_eq_none,ahS]at h;(repeat' split)<;>first|trivial|exact⟨sm,λ_=>.inr (Kp.iR h)⟩
  .rename_i id s n k j hx;rw[hx]at h;have h:n0.out id:=h;simp only[Kp.out,Ce,A8,Option.isNone_iff_eq_none,ahS]at h;(repeat' split)<;>first|trivial|exact⟨sm,λ_=>.inr (Kp.iR h)⟩
  trivial) sm
@[go_sem]theorem FC:ez P c nt n0 0 d (.move x) K fx fx e U=ef P c nt d (.move x) K fx fx e U:=tj sm (λ_ _=>rfl) rfl sm
@[go_sem]theorem AJ:ez P c nt n0 0 d (.assign x) K fx fx e U=ef P c nt d (.assign x) K fx fx e U:=tj sm (λ_ _=>rfl) rfl sm
@[go_sem]theorem FD{z:Operand}:ez P c nt n0 0 d (.pick x y z) K fx fx e U=ef P c nt d (.pick x y z) K fx fx e U:=tj sm (λ_ _=>rfl) rfl sm
@[go_sem]theorem DG:ez P c nt n0 0 d (.build t l) K fx fx e U=ef P c nt d (.build t l) K fx fx e U:=tj sm (λ_ _=>rfl) rfl sm
@[go_sem]theorem sa:ez P c nt n0 0 d (.buildSlice t n l) K fx fx e U=tc (cK P d e (.buildSlice t n l)) (ef P c nt d (.buildSlice t n l) K fx fx e U) fx:=Ma sm rfl sm
@[go_sem]theorem G9:ez P c nt n0 0 d (.nilCheck x) K fx fx e U=ef P c nt d (.nilCheck x) K fx fx e U:=tj sm (λ_ _=>rfl) rfl sm
theorem Yn{op:BinOp}{t':TypeId}:ez P c nt n0 0 d (.binOp op t x y t') K fx fx e U=tc (vV (wh (pV y) (vy op (ka P t) (zI e x)) (wh (rT y) (zb op (nz P t) (zI e x)) (oA op (ka P t) (nv P t) (zI e x) (zI e y))))=false) (ef P c nt d (.binOp op t x y t') K fx fx e U) fx:=by show ft P c nt n0 0 d (.binOp op t x y t') K e U=(vV (bZ P e U (.binOp op t x y t'))=false/\jg P c nt d (.binOp op t x y t') K e U);have hh:cK P d e (.binOp op t x y t'):=.inr λ_ _=>rfl;grind[FB,AH,ft,jg,qJ,l9]
attribute [go_sem] Yn vV
@[go_sem]theorem Jx{op:UnOp}:ez P c nt n0 0 d (.unOp op t x) K fx fx e U=ef P c nt d (.unOp op t x) K fx fx e U:=tj sm (λ_ _=>rfl) rfl sm
@[go_sem]theorem FE{t':TypeId}:ez P c nt n0 0 d (.convert t t' x) K fx fx e U=tc (cK P d e (.convert t t' x)) (ef P c nt d (.convert t t' x) K fx fx e U) fx:=Ma sm rfl sm
@[go_sem]theorem DH{lo hi mx:Option Operand}:ez P c nt n0 0 d (.slice t x lo hi mx) K fx fx e U=tc (cK P d e (.slice t x lo hi mx)) (ef P c nt d (.slice t x lo hi mx) K fx fx e U) fx:=Ma sm rfl sm
@[go_sem]theorem tm{f:Nat}:ez P c nt n0 0 d (.fieldAddr t x f) K fx fx e U=ef P c nt d (.fieldAddr t x f) K fx fx e U:=tj sm (λ_ _=>rfl) rfl sm
@[go_sem]theorem vW{i:Operand}:ez P c nt n0 0 d (.indexAddr t x i) K fx fx e U=ef P c nt d (.indexAddr t x i) K fx fx e U:=tj sm (λ_ _=>rfl) rfl sm
@[go_sem]theorem Ha{i:Operand}:ez P c nt n0 0 d (.index t x i) K fx fx e U=ef P c nt d (.index t x i) K fx fx e U:=tj sm (λ_ _=>rfl) rfl sm
@[go_sem]theorem vX:ez P c nt n0 0 d (.extract x i) K fx fx e U=ef P c nt d (.extract x i) K fx fx e U:=tj sm (λ_ _=>rfl) rfl sm
@[go_sem]theorem Hb{l:Array Operand}:ez P c nt n0 0 d (.call ⟨.builtin .len,l,ts⟩) K fx fx e U=ef P c nt d (.call ⟨.builtin .len,l,ts⟩) K fx fx e U:=tj sm (λ_ _=>rfl) rfl sm
@[go_sem]theorem DI:ez P c nt n0 4 d (.store t x y) K fx fx e U=ef P c nt d (.store t x y) K fx fx e U:=Jt sm sm (λ_ _=>rfl) sm
@[go_sem]theorem AK{l:Array Operand}:ez P c nt n0 4 d (.call ⟨.builtin .append,l,ts⟩) K fx fx e U=ef P c nt d (.call ⟨.builtin .append,l,ts⟩) K fx fx e U:=(by simp[Me])
@[go_sem]theorem DJ:ez P c nt n0 3 d (.alloc t) K fx fx e U=ef P c nt d (.alloc t) K fx fx e U:=Ju sm (λ_ _=>rfl) (by simp only[bZ];unfold rR;split<;>first|trivial|exact⟨sm,λ_=>.inl ⟨_,rfl⟩⟩) sm
attribute [go_sem] Yk Yl
@[go_sem]theorem FF{f:Operand}{l:List Operand}:ez P c nt n0 k d (.call ⟨.value f,l.toArray,ts⟩) K fx fx e U=qN P c n0 k (zI e f) (l.map (zI e)) U (LW nt d K fx e) fx:=id rfl
attribute [go_sem] l9
theorem yF{args:List V}{v:V}(hc:Pure P f cc v)(hb:wQ P f)(aa:∀N,bM (cR (cO [] N)) cc (args++bY))(hn:iH v)(hk:KV v U):qN P c n0 0 (.fn f bY) args U KV fx:=by refine⟨v,U,?_,λ_=>rfl,om,om,hk⟩;rw[ahP rfl];exactλs=>zJ (P:=P) (c:=c) (KV:=λr s'=>r=v/\s'=s) hc hb (aa _) hn sm
theorem Jy{cS:aik}{U:St}:(wD cS U s1).length=U.length+(s1.length-cS.length):=by grind[wD,oD]
theorem Qz{args:List V}{gp:St}{v:V}(hc:bL P f cc gp (λr s=>r=v/\s=s1))(hb:wQ P f)(cS:aik)(ab:cS.Nodup)(hlen:gp.length=cS.length)(ad:∀(i j:Nat)(o:Ob),cS[i]?=some j->gp[i]?=some o->U[j]?=some (yO (cO cS U.length) o))(aa:bM (cR (cO cS U.length)) cc (args++bY))(hk:KV (dG (cO cS U.length) v) (wD cS U s1)):qN P c n0 4 (.fn f bY) args U KV fx:=by refine⟨_,_,?_,om,om,by grind[Jy],hk⟩;rw[ahO dc,ahO dc];refine VC.of hc hb cS ab hlen ad aa ?_;simp
theorem Mf{args:List V}{gp:St}{v:V}(hc:bL P f cc gp (λr s=>r=v/\s=s1))(hb:wQ P f)(cS:aik)(ab:cS.Nodup)(hlen:gp.length=cS.length)(ad:∀(i j:Nat)(o:Ob),cS[i]?=some j->gp[i]?=some o->U[j]?=some (yO (cO cS U.length) o))(aa:bM (cR (cO cS U.length)) cc (args++bY))(ae:gL n0 U (wD cS U s1))(hk:KV (dG (cO cS U.length) v) (wD cS U s1)):qN P c n0 3 (.fn f bY) args U KV fx:=by refine⟨_,_,?_,om,(by grind),by grind[Jy],hk⟩;rw[ahO dc,ahO dc];refine VC.of hc hb cS ab hlen ad aa ?_;simp
theorem QA{args:List V}{v:V}(hc:bL P f cc [] (λr s=>r=v/\s=s1))(hb:wQ P f)(aa:bM (cR (cO [] U.length)) cc (args++bY))(hk:KV (dG (cO [] U.length) v) (U++s1.map (yO (cO [] U.length)))):qN P c n0 3 (.fn f bY) args U KV fx:=by
 have e:wD [] U s1=U++s1.map (yO (cO [] U.length)):=by rfl
 exact Mf hc hb [] C5 rfl sm aa (.inl ⟨_,e⟩) (by grind)
theorem Yo{args:List V}{v:V}(hc:Pure P f cc v)(hb:wQ P f)(hf:∀s,n0.of s=n0.of U->∃aa U1,oE (args++bY) s aa U1/\bM (cR (cO [] U1.length)) cc aa)(ab:GO v)(hk:KV v U):qN P c n0 1 (.fn f bY) args U KV fx:=by refine⟨v,U,?_,λ_=>rfl,om,om,hk⟩;rw[ahO dc,ahP rfl];intro s hs;obtain⟨aa,U1,h1,h2⟩:=hf s hs;exact VC.view hc hb h1 h2 (by grind) sm
end
def At(n0:Nat)(keep:aik)(vs:List V)(s:St)(e:Env)(U:St):Prop:=∃pick,gy n0 pick U s/\bM (cR (cO pick U.length)) vs (keep.map e)
def Next{S:Type}(p:S->Prop)(_:Fx p):Prop:=∃s,p s
theorem zH{S:Type}{p:S->Prop}(s:S)(h:p s):Next p fx:=⟨s,h⟩
section
variable{P:Program}{c:Ctx}{nt:Nat}{e:Env}{U:St}{a:Act}{w:World}{L:Nat->Nat}{I:ail}{Q:QT}{n0:Nat}
variable{keep:aik}{y:Code}{f:FuncId}{code:Code}{x:Code}{fn:Func}{rs:List ResultVar}{bY:List V}{cc:List V}{KV:V->St->Prop}
theorem zA(h:oF P c nt code Q fx fx e U):ga P c nt code Q fx fx e U:=rV code Q e U h
theorem Jz{K:KT}(h:ga P c nt x (zh K Q fx fx) fx fx e U)(hy:∀e' U',K e' U'->ga P c nt y Q fx fx e' U'):ga P c nt (.seq x y) Q fx fx e U:=by intro a w L I hs;refine wp_seq (wp_mono (h a w L I hs) λex a' w' q=>?_);cases ex with |normal=>obtain⟨e',U',L',I',aa,hq⟩:=q;exact hy e' U' hq a' w' L' I' aa|exit id=>exact q|goto l=>exact q|ret=>exact q|panic ch=>exact q|outgrown=>exact q
theorem zN(h:ga P c nt x (zh (ga P c nt y Q fx fx) Q fx fx) fx fx e U):ga P c nt (.seq x y) Q fx fx e U:=(by grind[Jz])
theorem pX{id:Nat}{b:Code}(h:ga P c nt b (qH id Q fx) fx fx e U):ga P c nt (.block id b) Q fx fx e U:=by intro a w L I hs;refine wp_block (wp_mono (h a w L I hs) λex a' w' q=>?_);cases ex with
 |exit aa=>
  obtain⟨e',U',L',I',ab,hq⟩:=q;change(if aa=id then Q .normal e' U' else Q (.exit aa) e' U')at hq;change(if aa=id then fo c nt Q .normal a' w' else fo c nt Q (.exit aa) a' w');split;.rename_i hid;rw[ahP hid]at hq;exact⟨e',U',L',I',ab,hq⟩
  .rename_i hid;rw[ahO hid]at hq;exact⟨e',U',L',I',ab,hq⟩|normal=>exact q|goto l=>exact q|ret=>exact q|panic ch=>exact q|outgrown=>exact q
theorem JA{b:Bool}{x:Operand}{t f:Code}(hx:zI e x=.bool b)(ht:b=true->ga P c nt t Q fx fx e U)(hf:b=false->ga P c nt f Q fx fx e U):ga P c nt (.cond x t f) Q fx fx e U:=by intro a w L I hs;have hv:=hs.eval x;rw[hx]at hv;exact wp_cond_split (pU hv) (λh=>ht h a w L I hs) (λh=>hf h a w L I hs)
theorem Yp{vs:List V}{s:St}(hn:c.cd.length=n0)(hc:c.β0.length=c.cd.length)(hk:At n0 keep vs s e U)(hy:ga P c nt y Q fx fx (nC (keep.zip vs)) s):ga P c nt y Q fx fx e U:=by intro a w L I hs;subst hn;obtain⟨pick,hp,aa⟩:=hk;obtain⟨gP,s',I',⟨rfl,rfl⟩,_,ab⟩:=LV (Inv:=λgP s' _=>gP=vs/\s'=s) (m:=0) hs hc ⟨vs,s,pick,hp,aa,rfl,rfl⟩;exact hy a w L I' ab
theorem wM{S:Type}(keep:aik)(aa:S->List V)(ab:S->St)(uI:S->Prop)(hn:c.cd.length=n0)(hc:c.β0.length=c.cd.length)(hx:ga P c nt x (zh (λe' U'=>Next (λs=>uI s/\At n0 keep (aa s) (ab s) e' U') fx) Q fx fx) fx fx e U)(hy:∀s,uI s->ga P c nt y Q fx fx (nC (keep.zip (aa s))) (ab s)):ga P c nt (.seq x y) Q fx fx e U:=Jz hx λ_ _⟨s,hI,ad⟩=>(by grind[Yp])
theorem zG{body:Code}{S:Type}(keep:aik)(aa:S->List V)(ad:S->St)(ab:S->Nat)(uI:S->Prop)(hn:c.cd.length=n0)(hc:c.β0.length=c.cd.length)(s0:S)(hI:uI s0)(h0:At n0 keep (aa s0) (ad s0) e U)(hr:∀s,uI s->ga P c nt body (zh (λe' U'=>Next (λs'=>ab s'<ab s/\uI s'/\At n0 keep (aa s') (ad s') e' U') fx) Q fx fx) fx fx (nC (keep.zip (aa s))) (ad s)):ga P c nt (.loop body) Q fx fx e U:=by
 subst hn;intro a w L I hs;refine Qs (λm a w=>∃s L I,m=ab s/\uI s/\dM c nt (nC (keep.zip (aa s))) (ad s) a w L I) (ab s0) ?_ ?_;.obtain⟨pick,hp,ae⟩:=h0;obtain⟨gP,s',I',⟨rfl,rfl⟩,_,af⟩:=LV (Inv:=λgP s' _=>gP=aa s0/\s'=ad s0) (m:=0) hs hc ⟨_,_,pick,hp,ae,rfl,rfl⟩;grind
 .rintro m a w ⟨s,L,I,rfl,ag,hs⟩;refine wp_mono (hr s ag a w L I hs) λx a' w' q=>?_;cases x with |normal=>obtain⟨e',U',L',I',af,s',ah,ai,pick,hp,ae⟩:=q;obtain⟨gP,s2,I2,⟨rfl,rfl⟩,_,aj⟩:=LV (Inv:=λgP s2 _=>gP=aa s'/\s2=ad s') (m:=0) af hc ⟨_,_,pick,hp,ae,rfl,rfl⟩;exact⟨ab s',ah,s',L',I2,rfl,ai,aj⟩|exit id=>exact q|goto l=>exact q|ret=>exact q|panic ch=>exact q|outgrown=>exact q
theorem zK{ρ:Nat->Nat}{l m:List V}(h:l=m)(hn:l.all iH):bM (cR ρ) l m:=by grind[yC]
theorem pa{n N:Nat}:∀{l:List V},l.all (jZ n)=true->bM (cR (cO (List.range n) N)) l l
 |[],_=>trivial|v::l,h=>by simp only[Aq,A8]at h;exact⟨o7 h.1,pa h.2⟩
theorem zC{n N:Nat}{l m:List V}(h:l=m)(hn:l.all (jZ n)):bM (cR (cO (List.range n) N)) l m:=by grind[pa]
theorem fg{vs:List V}{QB:Nat}(hN:U.length=QB)(h:bM (cR (cO [] QB)) vs (keep.map e)):At 0 keep vs [] e U:=by subst hN;exact⟨[],⟨rfl,C5,sm,om⟩,h⟩
theorem bT(k:Nat){vs:List V}{s:St}(hs:U.take k=s)(hk:s.length=k)(cK:s.all (bO k))(hn:n0<=k)(h:bM (cR (cO (List.range k) U.length)) vs (keep.map e)):At n0 keep vs s e U:=by subst hs;have h1:U.take k++U.drop k=U:=sm;have hp:=Qv (n0:=n0) (s:=U.take k) (loc:=U.drop k) (by rw[hk];exact cK) (by rw[hk];exact hn);rw[h1,hk]at hp;exact⟨_,hp,h⟩
theorem AL(pick:aik){vs:List V}{s:St}(ab:pick.Nodup)(hn:n0=0)(aa:bM (λo j=>U[j]?=some (yO (cO pick U.length) o)) s pick)(h:bM (cR (cO pick U.length)) vs (keep.map e)):At n0 keep vs s e U:=by subst hn;refine⟨pick,⟨aa.length,ab,λi j o hi ho=>?_,om⟩,h⟩;obtain⟨j',ad,hr⟩:=aa.get i o ho;grind
theorem bL.jL{nt:Nat}{args:List V}{R:V->St->Prop}(n0:Nat)(hf:P.funcs[f]?=some fn)(aa:fn.ntmps=nt)(ab:fn.results=rs.toArray)(hb:fn.body=some code)(h0:U.length=n0)(ad:args.length<=nt)(h:∀c:Ctx,c.cd.length=n0->c.β0.length=c.cd.length->ga P c nt code (mD P rs n0 R) fx fx (kh 0 args) U):bL P f args U R:=bL.oW n0 hf aa ab hb h0 ad h
theorem qQ(t:Nat)(hn:nt<=100000)(hy:ga P c nt y Q fx fx (fe e (100000+t) (.cm [])) U):ga P c nt y Q fx fx e U:=by
 intro a w L I hs;refine hy a w L I ⟨hs.mem,hs.size,hs.defs,λk=>?_⟩;simp only[fe];split
 .rename_i hk;subst hk;refine⟨[],?_,tV⟩;have:¬(100000+t<a.tmps.size):=by rw[hs.size];omega
  simp[Array.getD,this,undef]
 .exact hs.env k
theorem sd(id s:Nat)(rows:List (List V))(cD:U[id]?=some (.cj rows s))(hp:xB rows)(hy:ga P c nt y Q fx fx (λt=>fr id rows (e t)) (lk id rows U)):ga P c nt y Q fx fx e U:=by intro a w L I hs;obtain⟨h1,h2,h3,h4⟩:=Qi hs.mem cD hp;exact hy a w _ I ⟨h1,hs.size,hs.defs,λt=>h4 _ _ (hs.env t)⟩
theorem Yq{args ab:List V}{v:V}{U1:St}(hc:Pure P f cc v)(hb:wQ P f)(hf:oE (args++bY) U ab U1)(aa:bM (cR (cO [] U1.length)) cc ab)(ad:GO v)(hk:KV v U):jE P c (.fn f bY) args U KV fx:=VC.view hc hb hf aa (by grind) (by grind)
attribute [go_sem] fr iF iE ij sW lk
attribute[go_sem]Dv List.zip_nil_left List.zip_nil_right
theorem iV{nt:Nat}{args:List V}{R:V->St->Prop}(n0:Nat)(hf:P.funcs[f]?=some fn)(aa:fn.ntmps=nt)(ab:fn.results=rs.toArray)(h:∀c:Ctx,c.cd.length=n0->c.β0.length=c.cd.length->ga P c nt code (mD P rs n0 R) fx fx (kh 0 args) U)(hb:fn.body=some code:=by rfl)(h0:U.length=n0:=by rfl)(ad:args.length<=nt:=by exact Cc rfl):bL P f args U R:=(by simp_all[bL.jL])
theorem iW{nt:Nat}{args:List V}{R:V->St->Prop}(n0:Nat)(hf:P.funcs[f]?=some fn)(aa:fn.ntmps=nt)(ab:fn.results=rs.toArray)(h:∀c:Ctx,c.cd.length=n0->c.β0.length=c.cd.length->qC P c nt code (mD P rs n0 R) (kh 0 args) U)(hb:fn.body=some code:=by rfl)(h0:U.length=n0:=by rfl)(ad:args.length<=nt:=by exact Cc rfl):bL P f args U R:=(by simp_all[bL.intro])
theorem aN(k:Nat){vs:List V}{s:St}(cK:s.all (bO k))(hs:U.take k=s:=by simp[go_sem])(hk:s.length=k:=by rfl)(hn:n0<=k:=by omega)(h:vs=keep.map e:=by simp[go_sem])(hv:vs.all (jZ k)=true:=by rfl):At n0 keep vs s e U:=(by grind[bT,zC])
theorem aM(k:Nat){vs:List V}{s:St}(cK:s.all (bO k))(h:bM (cR (cO (List.range k) U.length)) vs (keep.map e))(hs:U.take k=s:=by simp[go_sem])(hk:s.length=k:=by rfl)(hn:n0<=k:=by omega):At n0 keep vs s e U:=(by grind[bT])
theorem aO{vs:List V}(h:vs=keep.map e:=by simp[go_sem])(hv:vs.all iH=true:=by rfl):At 0 keep vs [] e U:=fg rfl (zK h hv)
theorem pC{args:List V}{v:V}(hc:Pure P f cc v)(hk:KV v U)(aa:bM (cR (cO [] U.length)) cc (args++bY):=by first|exact yC rfl|exact⟨zP,yC rfl⟩|exact⟨zP,zP,yC rfl⟩|exact⟨zD rfl,zP,yC rfl⟩|exact⟨zP,zP,zP,yC rfl⟩|exact⟨zP,zD rfl,zP,yC rfl⟩|exact⟨zD rfl,zP,zP,yC rfl⟩|exact⟨zD rfl,zD rfl,zP,yC rfl⟩|exact⟨zP,zP,zP,zP,yC rfl⟩|exact⟨zP,zP,zD rfl,zP,yC rfl⟩|exact⟨zP,zD rfl,zP,zP,yC rfl⟩|exact⟨zP,zD rfl,zD rfl,zP,yC rfl⟩|exact⟨zD rfl,zP,zP,zP,yC rfl⟩|exact⟨zD rfl,zP,zD rfl,zP,yC rfl⟩|exact⟨zD rfl,zD rfl,zP,zP,yC rfl⟩|exact⟨zD rfl,zD rfl,zD rfl,zP,yC rfl⟩)(hb:wQ P f=true:=by kernel_rfl)(hn:iH v=true:=by rfl):jE P c (.fn f bY) args U KV fx:=(by grind[zJ])
theorem pD{n0:Kp}{args:List V}{v:V}(hc:Pure P f cc v)(hk:KV v U)(aa:∀N,bM (cR (cO [] N)) cc (args++bY):=by first|exactλ_=>yC rfl|exactλ_=>⟨zP,yC rfl⟩|exactλ_=>⟨zP,zP,yC rfl⟩|exactλ_=>⟨zD rfl,zP,yC rfl⟩|exactλ_=>⟨zP,zP,zP,yC rfl⟩|exactλ_=>⟨zP,zD rfl,zP,yC rfl⟩|exactλ_=>⟨zD rfl,zP,zP,yC rfl⟩|exactλ_=>⟨zD rfl,zD rfl,zP,yC rfl⟩|exactλ_=>⟨zP,zP,zP,zP,yC rfl⟩|exactλ_=>⟨zP,zP,zD rfl,zP,yC rfl⟩|exactλ_=>⟨zP,zD rfl,zP,zP,yC rfl⟩|exactλ_=>⟨zP,zD rfl,zD rfl,zP,yC rfl⟩|exactλ_=>⟨zD rfl,zP,zP,zP,yC rfl⟩|exactλ_=>⟨zD rfl,zP,zD rfl,zP,yC rfl⟩|exactλ_=>⟨zD rfl,zD rfl,zP,zP,yC rfl⟩|exactλ_=>⟨zD rfl,zD rfl,zD rfl,zP,yC rfl⟩)(hb:wQ P f=true:=by kernel_rfl)(hn:iH v=true:=by rfl):qN P c n0 0 (.fn f bY) args U KV fx:=(by grind[yF])
theorem wR{R:V->St->Prop}{v r:V}(hr:cR (cO [] U.length) r v:=by exact zD rfl)(hR:R r []:=by exact⟨rfl,rfl⟩):bW (some v) 0 R U:=zV hr hR
end
end Go.Vx
