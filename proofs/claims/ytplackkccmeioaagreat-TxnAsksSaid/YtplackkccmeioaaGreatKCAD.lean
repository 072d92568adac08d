/-
  Walks with cuts: a statement's end held by the slots that are read later, what follows proved once.
  No condition: a library text; nothing of the program is named.
-/
import Derived.Test.YtplackkccmeioaaGreatKCAC
import Derived.Orders
set_option maxHeartbeats 8000000
namespace Go.Vx
open Go
section
variable {P:Program} {c:Ctx} {nt:Nat} {e:Env} {I:St} {a:Act} {w:World} {L:Nat->Nat} {J:aj1}
variable {fn:Func}{code:Code}
def ka:Nat->List V->Env
 |_,[]=>ma
 |i,v::vs=>fo (ka (i+1) vs) i v
theorem Mt: ∀(vs:List V) (i t:Nat),ka i vs (i+t)=vs.getD t .u
 | [],_,_=>by rfl
 |v::vs,i,0=>by simp[ka,fo]
 |v::vs,i,t+1=>by
  simp only[ka,fo]
  rw[aiu om]
  have:=Mt vs (i+1) t
  grind
def EY (P:Program) (e:Env) (I:St):ResultVar->Option V
 | .tmp t=>some (e t)
 | .cell t T=>(match ng P T I (e t)with| .ok v=>some v|_=>none)
def CB (P:Program) (e:Env) (I:St):List ResultVar->Option (List V)
 | []=>some []
 |r::rs=>(match EY P e I r,CB P e I rs with|some v,some vs=>if nb v=true then some (v::vs)else none|_,_=>none)
def ml (P:Program) (rs:List ResultVar) (e:Env) (I:St):Option V:=
 match rs with
 | [r]=>EY P e I r
 |rs=>(CB P e I rs).map .cy
def sV (a:Act):ResultVar->Sem Value
 | .tmp t=>pure (a.tmps.getD t undef)
 | .cell t T=>do loadVar T (<-asAddr (a.tmps.getD t undef))
theorem YX (fn:Func) (a:Act):results fn a.tmps=(do let vs<-fn.results.mapM (sV a);pure (if h:vs.size=1 then vs[0]else .tuple vs)):=by
 rfl
theorem QS (h:dQ c nt e I a w L J) {r:ResultVar} {v:V} (hv:EY P e I r=some v):
  ∃x,(sV a r).run P w= .ok x w/\dD w L I J v x:=by
 cases r with
 |tmp t=>
  simp only[EY,aiy]at hv
  subst hv
  exact⟨_,rfl,h.env t⟩
 |cell t T=>
  simp only[EY]at hv
  split at hv
  .rename_i v' hl
   simp only[aiy]at hv
   subst hv
   obtain⟨bl,off,z,hy,hz,r⟩:=Qh (P:=P) T h.mem (h.env t) hl
   grind[sV,asAddr]
  grind
theorem QU (h:dQ c nt e I a w L J): ∀(rs:List ResultVar) (vs:List V),CB P e I rs=some vs->
  ∃xs:aj1,(rs.mapM (sV a)).run P w= .ok xs w/\bP (dW w L I J) vs xs/\xs.length=rs.length
 | [],vs,hv=>by
  simp only[CB,aiy]at hv
  subst hv
  exact⟨[],rfl,tV,rfl⟩
 |r::rs,vs,hv=>by
  simp only[CB]at hv
  split at hv
  .rename_i v gY h1 h2
   split at hv
   .rename_i hh
    simp only[aiy]at hv
    subst hv
    obtain⟨x,hx,hr⟩:=QS (P:=P) h h1
    obtain⟨xs,aa,ab,hl⟩:=QU h rs gY h2
    refine⟨x::xs, ?_,⟨ER hr hh,ab⟩,by simp[hl]⟩
    rw[List.mapM_cons]
    simp only[Sem.run_bind,hx,Result.andThen_ok,aa,Sem.run_pure]
   .cases hv
  .cases hv
theorem YY (h:dQ c nt e I a w L J) {v:V} (hv:ml P fn.results.toList e I=some v): ∃x,(results fn a.tmps).run P w= .ok x w/\dD w L I J v x:=by
 have ab: ∀xs:aj1,(fn.results.toList.mapM (sV a)).run P w= .ok xs w->
   (results fn a.tmps).run P w= .ok (if hs:xs.toArray.size=1 then xs.toArray[0]else .tuple xs.toArray) w:=by
  grind[YX,Array.mapM_eq_mapM_toList,Sem.run_bind,Sem.run_map,Result.andThen_ok,Sem.run_pure]
 unfold ml at hv
 split at hv
 .rename_i r hr
  obtain⟨x,hx,ad⟩:=QS (P:=P) h hv
  simp_all
 .rename_i rs ae
  cases ha:CB P e I fn.results.toList with
  |none=>grind
  |some vs=>
   rw[ha]at hv
   simp only[Bb,aiy]at hv
   subst hv
   obtain⟨xs,af,aa,hl⟩:=QU (P:=P) h _ _ ha
   refine⟨.tuple xs.toArray, ?_,xs,rfl,aa⟩
   have hn: ¬xs.toArray.size=1:=by
    intro q
    simp only[List.size_toArray]at q
    rw[hl]at q
    obtain⟨r,hr⟩:=List.length_eq_one_iff.1 q
    grind
   grind
def qv (n0:Nat) (R:V->St->Prop) (v:V) (I:St):Prop:=
 ∃v1 I1 pick I' r,ot [v] I [v1] I1/\gB n0 pick I1 I'/\cT (cK pick I1.length) r v1/\R r I'
def mm (P:Program) (rs:List ResultVar) (n0:Nat) (R:V->St->Prop):Exit->Env->St->Prop
 | .normal,e,I| .ret,e,I=> ∃v,ml P rs e I=some v/\qv n0 R v I
 |_,_,_=>False
theorem bN.oP {f:FuncId} {nt:Nat} {rs:List ResultVar} {args:List V} {I:St} {R:V->St->Prop} (n0:Nat) (hf:P.funcs[f]? =some fn) (af:fn.ntmps=nt) (ad:fn.results=rs.toArray) (hb:fn.body=some code) (h0:I.length=n0) (an:args.length<=nt)
  (h: ∀c:Ctx,c.cv.length=n0->c.β0.length=c.cv.length->VW P c nt code (mm P rs n0 R) (ka 0 args) I):bN P f args I R:=by
 subst af
 subst h0
 have ad:fn.results.toList=rs:=by rw[ad]
 subst ad
 intro w L J aa hm ha
 have hlen:=ha.length
 refine calls_of_wp hf hb ?_
 have ae:dQ (entry w L I J) fn.ntmps (ka 0 args) I {tmps:=aa.toArray++Array.replicate (fn.ntmps - aa.toArray.size) undef,defers:= []} w L J:=by
  refine⟨hm,by grind,rfl,λt=> ?_⟩
  have e1:=Mt args 0 t
  rw[Ad]at e1
  rw[e1]
  by_cases ht:t<args.length
  .obtain⟨x,hx,r⟩:=ha.get t _ (A0 ht)
   have:(aa.toArray++Array.replicate (fn.ntmps - aa.toArray.size) undef).getD t undef=x:=by
    rw[Array.getD_eq_getD_getElem?,Dm (by grind)]
    grind
   grind
  .rw[Al,Dk om]
   trivial
 refine wp_mono (h (entry w L I J) rfl hm.len _ w L J ae) λx a' w' q=> ?_
 have fin: ∀{x:Exit},(x= .normal\/x= .ret)->fu (entry w L I J) fn.ntmps (mm P fn.results.toList I.length R) x a' w'->
   a'.defers= []/\ ∃v,(results fn a'.tmps).run P w'= .ok v w'/\ ∃v' r L' I' J',Ending.returned v=Ending.returned v'/\R r I'/\I.length<=I'.length/\Mem (entry w L I J) w' L' I' J'/\dD w' L' I' J' r v':=by
  intro x hx q
  have hq: ∃e' I' L' J',dQ (entry w L I J) fn.ntmps e' I' a' w' L' J'/\ ∃v,ml P fn.results.toList e' I'=some v/\qv I.length R v I':=by
   rcases hx with rfl|rfl<;>exact q
  obtain⟨e',cv,ao,J1,hs,v,hv,v1,I1,pick,I',r,ah,hp,ai,hR⟩:=hq
  obtain⟨x,hx,al⟩:=YY (P:=P) hs hv
  obtain⟨L',J2,ab,_,_,aj,_⟩:=ah.ok hs.mem (xs:= [x]) (by trivial)
  refine⟨hs.defs,x,hx,x,r,L',I',_,rfl,hR, ?_,ab.pick hp hm.len,y4 (hp.jt ab.len) ai aj⟩
  rw[hp.len]
  rcases Bv pick.length I.length with ak|aq
  .have:=(A4.1 (hp.id pick.length ak)).1
   omega
  omega
 cases x with
 |normal=>exact fin (.inl rfl) q
 |ret=>exact fin (.inr rfl) q
 |exit id=>obtain⟨e',I',L',J',hs,hq⟩:=q;simpa
 |goto l=>simpa
 |panic ch=>trivial
 |outgrown=>trivial
theorem bN.intro {f:FuncId} {nt:Nat} {rs:List ResultVar} {args:List V} {I:St} {R:V->St->Prop} (n0:Nat) (hf:P.funcs[f]? =some fn) (aa:fn.ntmps=nt) (ab:fn.results=rs.toArray) (hb:fn.body=some code) (h0:I.length=n0) (ad:args.length<=nt)
  (h: ∀c:Ctx,c.cv.length=n0->c.β0.length=c.cv.length->qu P c nt code (mm P rs n0 R) (ka 0 args) I):bN P f args I R:=
 bN.oP n0 hf aa ab hb h0 ad (by grind[rM])
theorem QV {Q:Exit->Act->World->Prop} (uU:Nat->Act->World->Prop) (n:Nat) (h₀:uU n a w)
  (round: ∀n a w,uU n a w->code.wp P (Exit.then (λa' w'=> ∃m,m<n/\uU m a' w') Q) a w):(Code.loop code).wp P Q a w:=by
 intro b k cs
 have key: ∀n a w,uU n a w-> ∃e a' w',Q e a' w'/\Arrives P (lone (b.at a (.code code:: .inLoop code::k)) cs w) b k cs e a' w':=by
  intro n
  induction n using Nat.strongRecOn with
  |_ n ih=>
   intro a w hI
   obtain⟨e,a₁,qx,hq,aa⟩:=round n a w hI b (.inLoop code::k) cs
   cases e with
   |normal=>
    obtain⟨m,ad,ae⟩:=hq
    obtain⟨Mu,a₂,Mw,af,ab⟩:=ih m ad a₁ qx ae
    exact⟨Mu,a₂,Mw,af,.of_steps (Steps.trans aa (.one step_inLoop)) ab⟩
   |exit id=>exact⟨_,a₁,qx,hq,(by simpa)⟩
   |goto l=>exact⟨_,a₁,qx,hq,(by simpa)⟩
   |ret=>exact⟨_,a₁,qx,hq,(by simpa)⟩
   |panic ch=>exact⟨_,a₁,qx,hq,(by simpa)⟩
   |outgrown=>exact⟨_,a₁,qx,hq,(by simpa)⟩
 obtain⟨e,a',w',hq,aa⟩:=key n a w h₀
 exact⟨e,a',w',hq,.of_steps (.one step_loop) aa⟩
def nu:List (Nat×V)->Env
 | []=>ma
 |(t,v)::r=>fo (nu r) t v
def YZ (n0:Nat) (keep:aj0) (Inv:List V->St->Nat->Prop) (m:Nat) (e:Env) (I:St):Prop:=
 ∃vs s pick,gB n0 pick I s/\bP (cT (cK pick I.length)) vs (keep.map e)/\Inv vs s m
theorem Mx (h:dQ c nt e I a w L J) (hc:c.β0.length=c.cv.length) {keep:aj0} {Inv:List V->St->Nat->Prop} {m:Nat} (hk:YZ c.cv.length keep Inv m e I):
  ∃vs s J',Inv vs s m/\vs.length=keep.length/\dQ c nt (nu (keep.zip vs)) s a w L J':=by
 obtain⟨vs,s,pick,hp,aa,hI⟩:=hk
 have hl:=aa.length
 simp at hl
 refine⟨vs,s,_,hI,hl,h.mem.pick hp hc,h.size,h.defs,λt=> ?_⟩
 have hb:=hp.jt h.mem.len
 clear hI
 revert aa hl
 generalize keep=kl
 intro aa hl
 induction kl generalizing vs with
 |nil=>trivial
 |cons q kl ih=>cases vs with
  |nil=>grind
  |cons v vs=>
   simp only[Dz,nu,fo]
   by_cases hq:t=q
   .subst hq
    rw[aiv rfl]
    exact y4 hb aa.1 (h.env t)
   .rw[aiu hq]
    exact ih vs aa.2 (by grind)
end
def Fx.{v} {U:Sort v} (_:U):Type:=Unit
def fx.{v} {U:Sort v} {a:U}:Fx a:=()
abbrev KT:=Env->St->Prop
abbrev QT:=Exit->Env->St->Prop
def ou (P:Program) (c:Ctx) (nt:Nat) (code:Code) (Q:QT) (_:Fx code) (_:Fx Q) (e:Env) (I:St):Prop:=qu P c nt code Q e I
def mq (P:Program) (c:Ctx) (nt:Nat) (ops l:List Oper) (K:KT) (_:Fx ops) (_:Fx l) (_:Fx K) (e:Env) (I:St):Prop:=j9 P c nt ops l K e I
def eJ (P:Program) (c:Ctx) (nt:Nat) (d:Option Tmp) (op:Op) (K:KT) (_:Fx op) (_:Fx K) (e:Env) (I:St):Prop:=jE P c nt d op K e I
def dR (nt:Nat) (d:Option Tmp) (r:R) (K:KT) (_:Fx K) (e:Env) (I:St):Prop:=mh nt d r K e I
def iI (nt:Nat) (d:Option Tmp) (v:V) (K:KT) (_:Fx K) (e:Env) (I:St):Prop:=fc nt d v K e I
def sW (p q:Prop) (_:Fx q):Prop:=Jl p q
def EZ (x:V) (A B:Prop) (_:Fx A) (_:Fx B):Prop:=G3 x A B
def kJ (x:V) (want:Bool) (A B:Prop) (_:Fx A) (_:Fx B):Prop:=kI x want A B
def CC (t:Option Tmp) (want:Bool) (e:Env) (A B:Prop) (_:Fx A) (_:Fx B):Prop:=match t with|some t=>kI (e t) want A B|none=>False
def sX (ops:List Oper) (_:Fx ops) (j:Nat):Option Tmp:=j8 ops j
def y6 (K:KT) (Q:QT) (_:Fx K) (_:Fx Q) (x:Exit) (e:Env) (I:St):Prop:=Ms K Q x e I
def qB (id:Nat) (Q:QT) (_:Fx Q) (x:Exit) (e:Env) (I:St):Prop:=CA id Q x e I
def gE (P:Program) (c:Ctx) (nt:Nat) (code:Code) (Q:QT) (_:Fx code) (_:Fx Q) (e:Env) (I:St):Prop:=VW P c nt code Q e I
def jm (P:Program) (c:Ctx) (fv:V) (az:List V) (I:St) (K:V->St->Prop) (_:Fx K):Prop:=VC P c fv az I K
def My (nt:Nat) (d:Option Tmp) (K:KT) (_:Fx K) (e:Env) (v:V) (I:St):Prop:=fc nt d v K e I
section
variable {P:Program} {c:Ctx} {nt:Nat} {e:Env} {I:St} {K:KT} {Q:QT} {d:Option Tmp}
variable {x:Operand}{t:TypeId}{i:Nat}{A:Prop}{B:Prop}{op:BinOp}{b:Bool}{es:Option (List Pk)}{y:Operand}{l:List Operand}{want:Bool}{t':TypeId}{k:IntKind}{f:FuncId}{ops:List Oper}{ty:TypeId}{dX:Array Edge}{n:Int}{p:Prop}{ts:Array TypeId}{ek:Nat}
theorem zM {code:Code} (h:ou P c nt code Q fx fx e I):qu P c nt code Q e I:=h
@[go_sem] theorem CD:ou P c nt .skip Q fx fx e I=Q .normal e I:=id rfl
@[go_sem] theorem E8 {x y:Code}:ou P c nt (.seq x y) Q fx fx e I=ou P c nt x (y6 (ou P c nt y Q fx fx) Q fx fx) fx fx e I:=id rfl
@[go_sem] theorem CE {t f:Code}:ou P c nt (.cond x t f) Q fx fx e I=EZ (zG e x) (ou P c nt t Q fx fx e I) (ou P c nt f Q fx fx e I) fx fx:=id rfl
@[go_sem] theorem y7 {b:Code}:ou P c nt (.block i b) Q fx fx e I=ou P c nt b (qB i Q fx) fx fx e I:=id rfl
@[go_sem] theorem CF:ou P c nt (.exit i) Q fx fx e I=Q (.exit i) e I:=id rfl
@[go_sem] theorem E9:ou P c nt .ret Q fx fx e I=Q .ret e I:=id rfl
@[go_sem] theorem vO {l:List Oper}:ou P c nt (.region i l.toArray false) Q fx fx e I=mq P c nt l l (Q .normal) fx fx fx e I:=id rfl
@[go_sem] theorem CG {ops:Array Oper}:ou P c nt (.region i ops true) Q fx fx e I=gE P c nt (.region i ops true) Q fx fx e I:=id rfl
@[go_sem] theorem CH {b:Code}:ou P c nt (.loop b) Q fx fx e I=gE P c nt (.loop b) Q fx fx e I:=id rfl
@[go_sem] theorem vP:y6 K Q fx fx .normal e I=K e I:=id rfl
@[go_sem] theorem Fa:y6 K Q fx fx .ret e I=Q .ret e I:=id rfl
@[go_sem] theorem CI:y6 K Q fx fx (.exit i) e I=Q (.exit i) e I:=id rfl
@[go_sem] theorem y8:qB i Q fx .normal e I=Q .normal e I:=id rfl
@[go_sem] theorem G4:qB i Q fx .ret e I=Q .ret e I:=id rfl
@[go_sem] theorem Fb:qB i Q fx (.exit i) e I=Q .normal e I:=by show(if i=i then _ else _)=_;simp
@[go_sem] theorem Fc {j:Nat}:qB i Q fx (.exit j) e I=if j=i then Q .normal e I else Q (.exit j) e I:=id rfl
theorem xB {op:Op} (h1:iu P e I op=cu P e I op) (h2:jE P c nt d op K e I=mh nt d (xX P d e I op) K e I):eJ P c nt d op K fx fx e I=dR nt d (cu P e I op) K fx e I:=by
 grind[eJ,dR,xX]
def wh (b:Bool) (x y:R):R:=if b=true then x else y
@[go_sem] theorem Y0 {x y:R}:wh true x y=x:=rfl
@[go_sem] theorem Y1 {x y:R}:wh false x y=y:=rfl
def Mz:V->Bool
 | .cy []=>true
 |_=>false
@[go_sem] theorem y9 {t:Nat}:lR e (some t)=Mz (e (100000+t)):=by
 rfl
@[go_sem] theorem za:lR e none=false:=rfl
@[go_sem] theorem G5:Mz (.cy [])=true:=rfl
@[go_sem] theorem G6:Mz .u=false:=rfl
@[go_sem] theorem MA {t:Nat}:ma t= .u:=rfl
@[go_sem] theorem G7:mq P c nt ops [] K fx fx fx e I=K e I:=id rfl
@[go_sem] theorem Fe {rest:List Oper} {op:Op} {pos:String}:mq P c nt ops (⟨d,op,ty,pos,dX,none⟩::rest) K fx fx fx e I=eJ P c nt d op (mq P c nt ops rest K fx fx fx) fx fx e I:=id rfl
@[go_sem] theorem CJ {rest:List Oper} {op:Op} {pos:String} {j:Nat}:mq P c nt ops (⟨d,op,ty,pos,dX,some (j,want)⟩::rest) K fx fx fx e I=
  CC (sX ops fx j) want e (eJ P c nt d op (mq P c nt ops rest K fx fx fx) fx fx e I) (iI nt d (.cy []) (mq P c nt ops rest K fx fx fx) fx e I) fx fx:=id rfl
@[go_sem] theorem Ff {t:Tmp}:CC (some t) want e A B fx fx=kJ (e t) want A B fx fx:=id rfl
@[go_sem] theorem Fg {d:Option Tmp} {op:Op} {pos:String} {g:Option (Nat×Bool)} {l:List Oper}:sX (⟨d,op,ty,pos,dX,g⟩::l) fx 0=d:=id rfl
@[go_sem] theorem Fh {o:Oper} {l:List Oper} {n:Nat}:sX (o::l) fx (n+1)=sX l fx n:=by rfl
@[go_sem] theorem Jo:kJ (.bool true) true A B fx fx=A:=by grind[kJ,kI]
@[go_sem] theorem Jp:kJ (.bool false) false A B fx fx=A:=by grind[kJ,kI]
@[go_sem] theorem Jq:kJ (.bool true) false A B fx fx=B:=by grind[kJ,kI]
@[go_sem] theorem Jr:kJ (.bool false) true A B fx fx=B:=by grind[kJ,kI]
@[go_sem] theorem Js:kJ (.cy []) want A B fx fx=B:=by rfl
@[go_sem] theorem Jt:EZ (.bool true) A B fx fx=A:=by grind[EZ,G3]
@[go_sem] theorem Ju:EZ (.bool false) A B fx fx=B:=by grind[EZ,G3]
theorem zV (ha:b=true->A) (hb:b=false->B):EZ (.bool b) A B fx fx:=⟨ha,hb⟩
theorem xD (ha:b=want->A) (hb:b=(!want)->B):kJ (.bool b) want A B fx fx:=⟨ha,λh=>hb (by cases b<;>cases want<;>simp_all)⟩
theorem zJ {q:Prop} (hp:p) (hq:q):sW p q fx:=⟨hp,hq⟩
@[go_sem] theorem Jv {q:Prop}:sW True q fx=q:=by grind[sW,Jl]
@[go_sem] theorem Jw {v:V}:dR nt d (.ok v) K fx e I=iI nt d v K fx e I:=id rfl
@[go_sem] theorem Fi {v:V}:dR nt d (.ee p v) K fx e I=sW p (iI nt d v K fx e I) fx:=id rfl
@[go_sem] theorem Jx {v:V} {s:St}:dR nt d (.st v s) K fx e I=iI nt d v K fx e s:=id rfl
@[go_sem] theorem zb {v:V} {s:St}:dR nt d (.dF p v s) K fx e I=sW p (iI nt d v K fx e s) fx:=id rfl
@[go_sem] theorem Fj {t:Nat} {v:V}:iI nt (some t) v K fx e I=(t<nt/\K (fo e t v) I):=id rfl
@[go_sem] theorem Fk {v:V}:iI nt none v K fx e I=K e I:=id rfl
@[go_sem] theorem G8 {v:V}:My nt d K fx e v I=iI nt d v K fx e I:=id rfl
@[go_sem] theorem G9:eJ P c nt d (.move x) K fx fx e I=iI nt d (zG e x) K fx e I:=(xB rfl rfl).trans rfl
@[go_sem] theorem CK:eJ P c nt d (.assign x) K fx fx e I=iI nt d (zG e x) K fx e I:=(xB rfl rfl).trans rfl
@[go_sem] theorem Ha {z:Operand}:eJ P c nt d (.pick x y z) K fx fx e I=dR nt d (x9 (zG e x) (zG e y) (zG e z)) K fx e I:=(xB rfl rfl).trans rfl
@[go_sem] theorem Fl:eJ P c nt d (.alloc t) K fx fx e I=dR nt d (rJ P t I) K fx e I:=(xB rfl rfl).trans rfl
@[go_sem] theorem Jy:eJ P c nt d (.box t x) K fx fx e I=dR nt d (vE I (zG e x)) K fx e I:=(xB rfl rfl).trans rfl
@[go_sem] theorem Fm {l:List (Nat×Operand)}:eJ P c nt d (.build t l.toArray) K fx fx e I=dR nt d (yh (wB P t) (eY P t) (l.map λp=>(p.1,zG e p.2))) K fx e I:=(xB rfl rfl).trans rfl
@[go_sem] theorem sY {n:Nat} {l:List (Nat×Operand)}:eJ P c nt d (.buildSlice t n l.toArray) K fx fx e I=dR nt d (wh (lR e d) (vM ((eF P t).map (·.1)) n I (l.map λp=>(p.1,zG e p.2))) (vH ((eF P t).map (·.1)) n (l.map λp=>(p.1,zG e p.2)))) K fx e I:=id rfl
@[go_sem] theorem Hb:eJ P c nt d (.load t x) K fx fx e I=dR nt d (ng P t I (zG e x)) K fx e I:=(xB rfl rfl).trans rfl
@[go_sem] theorem Fo:eJ P c nt d (.store t x y) K fx fx e I=dR nt d (vD P t I (zG e x) (zG e y)) K fx e I:=(xB rfl rfl).trans rfl
@[go_sem] theorem Jz:eJ P c nt d (.nilCheck x) K fx fx e I=dR nt d (ya (zG e x)) K fx e I:=(xB rfl rfl).trans rfl
@[go_sem] theorem JA:eJ P c nt d (.binOp op t x y t') K fx fx e I=dR nt d (wh (pP y) (vC op (iR P t) (zG e x)) (wh (rL y) (yw op (ni P t) (zG e x)) (mS op (iR P t) (kz P t) (zG e x) (zG e y)))) K fx e I:=(xB rfl rfl).trans rfl
@[go_sem] theorem zc {t:Nat}:pP (.tmp t)=false:=rfl
@[go_sem] theorem zd:pP (.const (.slice none 0 0))=true:=rfl
@[go_sem] theorem ze:pP (.const (.int k n))=false:=rfl
@[go_sem] theorem vQ:pP (.const (.bool b))=false:=rfl
@[go_sem] theorem zf {b:ByteArray}:pP (.const (.string b))=false:=rfl
@[go_sem] theorem zg {a:Option Addr}:pP (.const (.pointer a))=false:=rfl
@[go_sem] theorem vR:pP (.func f)=false:=rfl
@[go_sem] theorem zh {m:aj5}:pP (.const (.map m))=false:=rfl
@[go_sem] theorem vS {t:Nat}:rL (.tmp t)=false:=rfl
@[go_sem] theorem vT:rL (.const (.map none))=true:=rfl
@[go_sem] theorem vU:rL (.const (.int k n))=false:=rfl
@[go_sem] theorem uB:rL (.const (.bool b))=false:=rfl
@[go_sem] theorem vV {b:ByteArray}:rL (.const (.string b))=false:=rfl
@[go_sem] theorem vW {a:Option Addr}:rL (.const (.pointer a))=false:=rfl
@[go_sem] theorem uC:rL (.func f)=false:=rfl
def QW (l:List (V×St)) (A:V->St->Prop) (_:Fx A):Prop:= ∀p∈l,A p.1 p.2
@[go_sem] theorem Y2 {l:List (V×St)}:dR nt d (.any l) K fx e I=QW l (λv s=>iI nt d v K fx e s) fx:=id rfl
theorem Y3 {l:List (V×St)} {A:V->St->Prop} (h: ∀p∈l,A p.1 p.2):QW l A fx:=h
@[go_sem] theorem zi {r:Option Operand}:eJ P c nt d (.makeMap t r) K fx fx e I=dR nt d (yt I (ni P t) (r.map (zG e))) K fx e I:=(xB rfl rfl).trans rfl
@[go_sem] theorem CL {k:Operand} {ok:Bool}:eJ P c nt d (.lookup t x k ok) K fx fx e I=dR nt d (xZ (gD P t) I (zG e x) (zG e k) ok) K fx e I:=(xB rfl rfl).trans rfl
@[go_sem] theorem uD {k v:Operand}:eJ P c nt d (.mapUpdate t x k v) K fx fx e I=dR nt d (xW (gD P t) I (zG e x) (zG e k) (zG e v)) K fx e I:=(xB rfl rfl).trans rfl
@[go_sem] theorem Fp:eJ P c nt d (.range t x) K fx fx e I=dR nt d (yx (ni P t) I (zG e x)) K fx e I:=(xB rfl rfl).trans rfl
@[go_sem] theorem Hc:eJ P c nt d (.next x false) K fx fx e I=dR nt d (wh (lR e d) (nj true I (zG e x)) (nj false I (zG e x))) K fx e I:=id rfl
@[go_sem] theorem CM {k:Operand}:eJ P c nt d (.call ⟨.builtin .delete, #[x,k], #[t,t']⟩) K fx fx e I=dR nt d (yv (gD P t) I (zG e x) (zG e k)) K fx e I:=(xB rfl rfl).trans rfl
attribute [go_sem] GP BS yt xZ xW yx nj yv yw mT oq qn yu yy
def wall (A:Bool->Prop) (_:Fx A):Prop:= ∀b,A b
@[go_sem] theorem Hd {f:Bool->V}:dR nt d (.all f) K fx e I=wall (λb=>iI nt d (f b) K fx e I) fx:=id rfl
theorem JB {A:Bool->Prop} (h: ∀b,A b):wall A fx:=h
@[go_sem] theorem MB {op:UnOp}:eJ P c nt d (.unOp op t x) K fx fx e I=dR nt d (nf op (zG e x)) K fx e I:=(xB rfl rfl).trans rfl
@[go_sem] theorem He:eJ P c nt d (.convert t t' x) K fx fx e I=dR nt d (wh (lR e d) (yn (jJ P t) (jJ P t') I (zG e x)) (vI (jJ P t) (jJ P t') (zG e x))) K fx e I:=id rfl
@[go_sem] theorem Fq {hi:Option Operand}:eJ P c nt d (.slice t x none hi none) K fx fx e I=dR nt d (sI (iT P t) (dL P t) ((eF P t).map (·.1)) (zG e x) none (hi.map (zG e))) K fx e I:=(xB rfl rfl).trans rfl
@[go_sem] theorem CN {lo hi:Operand}:eJ P c nt d (.slice t x (some lo) (some hi) none) K fx fx e I=dR nt d (sI (iT P t) (dL P t) ((eF P t).map (·.1)) (zG e x) (some (zG e lo)) (some (zG e hi))) K fx e I:=(xB rfl rfl).trans rfl
@[go_sem] theorem CO {lo:Operand}:eJ P c nt d (.slice t x (some lo) none none) K fx fx e I=dR nt d (wh (lR e d) (yi (dL P t) ((eF P t).map (·.1)) I (zG e x) (zG e lo)) (sI (iT P t) (dL P t) ((eF P t).map (·.1)) (zG e x) (some (zG e lo)) none)) K fx e I:=id rfl
@[go_sem] theorem uE {f:Nat}:eJ P c nt d (.fieldAddr t x f) K fx fx e I=dR nt d (ye P t (zG e x) f) K fx e I:=(xB rfl rfl).trans rfl
@[go_sem] theorem Fs {f:Nat}:eJ P c nt d (.field t x f) K fx fx e I=dR nt d (yl (cw P t f) (zG e x)) K fx e I:=(xB rfl rfl).trans rfl
@[go_sem] theorem zj {i:Operand}:eJ P c nt d (.indexAddr t x i) K fx fx e I=dR nt d (vF (eT P t) (iT P t) (zG e x) (zG e i)) K fx e I:=(xB rfl rfl).trans rfl
@[go_sem] theorem JC {i:Operand}:eJ P c nt d (.index t x i) K fx fx e I=dR nt d (vG (zG e x) (zG e i) (qf P t) (iT P t)) K fx e I:=(xB rfl rfl).trans rfl
@[go_sem] theorem zk:eJ P c nt d (.extract x i) K fx fx e I=dR nt d (yc (zG e x) i) K fx e I:=(xB rfl rfl).trans rfl
@[go_sem] theorem Hf {fn:Fn} {m:List Operand}:eJ P c nt d (.makeFunc fn l.toArray m.toArray) K fx fx e I=dR nt d (ym fn l.length (m.map (zG e))) K fx e I:=(xB rfl rfl).trans rfl
@[go_sem] theorem Hg {l m:Operand}:eJ P c nt d (.makeSlice t l m) K fx fx e I=dR nt d (wh (lR e d) (vK (eF P t) (js P t) I (zG e l) (zG e m)) (vJ (eF P t) (js P t) I (zG e l) (zG e m))) K fx e I:=id rfl
@[go_sem] theorem JD:eJ P c nt d (.call ⟨.builtin .len, #[x], #[t]⟩) K fx fx e I=dR nt d (yg (dL P t) (zG e x)) K fx e I:=(xB rfl rfl).trans rfl
@[go_sem] theorem Ft:eJ P c nt d (.call ⟨.builtin .clear, #[x], #[t]⟩) K fx fx e I=dR nt d (vL ((eF P t).map (·.1)) (js P t) I (zG e x)) K fx e I:=(xB rfl rfl).trans rfl
@[go_sem] theorem CP:eJ P c nt d (.call ⟨.builtin .append, #[x,y], #[t,t']⟩) K fx fx e I=dR nt d (wh (lR e d) (sG (eF P t) (dL P t') I (zG e x) (zG e y)) (sE (eF P t) (dL P t') I (zG e x) (zG e y))) K fx e I:=id rfl
@[go_sem] theorem JE:eJ P c nt d (.call ⟨.builtin .min,l.toArray,ts⟩) K fx fx e I=dR nt d (qh false (l.map (zG e))) K fx e I:=(xB rfl rfl).trans rfl
@[go_sem] theorem JF:eJ P c nt d (.call ⟨.builtin .max,l.toArray,ts⟩) K fx fx e I=dR nt d (qh true (l.map (zG e))) K fx e I:=(xB rfl rfl).trans rfl
@[go_sem] theorem Hh {f:Operand}:eJ P c nt d (.call ⟨.value f,l.toArray,ts⟩) K fx fx e I=jm P c (zG e f) (l.map (zG e)) I (My nt d K fx e) fx:=id rfl
@[go_sem] theorem Fu {t:Nat}:zG e (.tmp t)=e t:=rfl
@[go_sem] theorem zl {v:Value}:zG e (.const v)=jl v:=rfl
@[go_sem] theorem CQ {g:Nat}:zG e (.global g)=Qd g:=rfl
@[go_sem] theorem CR:zG e (.func f)= .fn f []:=rfl
@[go_sem] theorem JG {t':Nat} {v:V} {t:Nat}:fo e t' v t=if t=t' then v else e t:=rfl
@[go_sem] theorem CS:jl (.bool b)= .bool b:=rfl
@[go_sem] theorem Fv:jl (.int k n)= .int k n:=rfl
@[go_sem] theorem Fw {s:ByteArray}:jl (.string s)= .str s.data.toList:=rfl
@[go_sem] theorem CT:jl (.pointer none)= .fT:=rfl
@[go_sem] theorem CU:jl (.slice none 0 0)= .sl .full []:=rfl
attribute [go_sem] yi vC GN BQ x9 ya nf vI yn qh yg vE rJ yc yl ye ng rI vD nb xO vG vF sI yj oo sE sG BR sD Qj vL vH vM vK sH yh EO vJ ym GV pN k5 rK oj ka nu
@[go_sem] theorem Fy {x y:Int}:mS op ek es (.int k x) (.int k y)=BO op k x y:=by simp[mS]
@[go_sem] theorem Fz {x y:aiZ}:mS op ek es (.str x) (.str y)=BP op x y:=rfl
@[go_sem] theorem CV {x y:Bool}:mS op 1 es (.bool x) (.bool y)=(match op with| .eql=> .ok (.bool (x==y))| .neq=> .ok (.bool (!(x==y)))|_=> .fail):=rfl
@[go_sem] theorem FA {o:Nat}:mS op 2 es (.ptr i o) .fT=(match op with| .eql=> .ok (.bool false)| .neq=> .ok (.bool true)|_=> .fail):=rfl
@[go_sem] theorem FB:mS op 2 es .fT .fT=(match op with| .eql=> .ok (.bool true)| .neq=> .ok (.bool false)|_=> .fail):=rfl
@[go_sem] theorem FC {ks:List Pk} {az bs:List V}:mS op ek (some ks) (.agg az) (.agg bs)=(match lj ks az bs with|some r=>(match op with| .eql=> .ok (.bool r)| .neq=> .ok (.bool (!r))|_=> .fail)|none=> .fail):=rfl
attribute [go_sem] BO BP lj jK putCells
end
def rN:V->Bool
 | .ptr _ _| .sl (.app _) _| .agg _| .cy _| .fn _ _| .cM _ _ _ _ _| .iQ _ _ _ _ _| .j6 _ _ _ _| .mp _| .gV _ _=>false
 |_=>true
def oQ:V->Bool
 | .fn _ bY=>bY.all rN
 | .gV _ vs=>vs.all rN
 |v=>rN v
def vX:V->Bool
 | .agg cs=>cs.all oQ
 |v=>oQ v
def gK:V->Bool
 | .cy vs=>vs.all vX
 |v=>vX v
def cL (n:Nat):V->Bool
 | .ptr id _=>decide (id<n)
 | .sl (.app id) _=>decide (id<n)
 | .cM id _ _ _ _=>decide (id<n)
 | .iQ id _ _ _ _=>decide (id<n)
 | .j6 id _ _ _=>decide (id<n)
 | .mp id=>decide (id<n)
 | .agg _| .cy _| .fn _ _| .gV _ _=>false
 |_=>true
def cN (n:Nat):V->Bool
 | .fn _ bY=>bY.all (cL n)
 | .gV _ vs=>vs.all (cL n)
 |v=>cL n v
def jn (n:Nat):V->Bool
 | .agg cs=>cs.all (cN n)
 |v=>cN n v
def iJ (n:Nat):V->Bool
 | .cy vs=>vs.all (jn n)
 |v=>jn n v
def bS (n:Nat):Ob->Bool
 | .box cells=>cells.all (cN n)
 | .cj rows _=>rows.all λr=>r.all (cN n)
 | .mp dM _ _=>dM.all (jn n)
 | .it m _ _ _=>(match m with|some id=>decide (id<n)|none=>true)
 |_=>true
theorem wH {U:Type} {f:U->U} {p:U->Bool} (h: ∀a,p a=true->f a=a): ∀{l:List U},l.all p=true->l.map f=l
 | [],_=>rfl
 |a::l,q=>by
  simp only[Bl,Ab]at q
  rw[Aj,h a q.1,wH h q.2]
section
variable {ρ:Nat->Nat}
theorem QX {v:V} (h:rN v):du ρ v=v:=by
 cases v with
 |sl g rows=>cases g<;>first|rfl|simp[rN]at h
 |_=>first|rfl|simp[rN]at h
theorem CW {v:V} (h:oQ v):dj ρ v=v:=by
 cases v with
 |fn f bY=>simp only[dj];rw[wH (λ_=>QX) h]
 |gV t v=>simp only[dj];rw[wH (λ_=>QX) h]
 |sl g rows=>cases g<;>first|rfl|simp[oQ,rN]at h
 |_=>first|rfl|simp[oQ,rN]at h
theorem MC {v:V} (h:vX v):dN ρ v=v:=by
 cases v with
 |agg cs=>simp only[dN];rw[wH (λ_=>CW) h]
 |fn f bY=>exact CW (v:= .fn f bY) h
 |gV t v=>exact CW (v:= .gV t v) h
 |sl g rows=>cases g<;>first|rfl|simp[vX,oQ,rN]at h
 |_=>first|rfl|simp[vX,oQ,rN]at h
theorem zm {v:V} (h:gK v):dI ρ v=v:=by
 cases v with
 |cy vs=>simp only[dI];rw[wH (λ_=>MC) h]
 |agg cs=>exact MC (v:= .agg cs) h
 |fn f bY=>exact CW (v:= .fn f bY) h
 |gV t v=>exact CW (v:= .gV t v) h
 |sl g rows=>cases g<;>first|rfl|simp[gK,vX,oQ,rN]at h
 |_=>first|rfl|simp[gK,vX,oQ,rN]at h
variable {n:Nat} (iX: ∀i,i<n->ρ i=i)
include iX
theorem zn {v:V} (h:cL n v):du ρ v=v:=by
 cases v with
 |sl g rows=>cases g with
  |app id=>simp_all[cL,du]
  |_=>rfl
 |ptr id off=>simp_all[cL,du]
 |cM id s n lo m=>simp_all[cL,du]
 |iQ id s n k j=>simp_all[cL,du]
 |j6 id s off n=>simp_all[cL,du]
 |mp id=>simp_all[cL,du]
 |_=>first|rfl|simp[cL]at h
theorem mU {v:V} (h:cN n v):dj ρ v=v:=by
 cases v with
 |fn f bY=>simp only[dj];rw[wH (by grind[zn]) h]
 |gV t v=>simp only[dj];rw[wH (by grind[zn]) h]
 |sl g rows=>have:=zn iX (v:= .sl g rows) h;simpa
 |ptr id off=>exact zn iX (v:= .ptr id off) h
 |cM id s' n' lo m=>exact zn iX (v:= .cM id s' n' lo m) h
 |iQ id s' n' k j=>exact zn iX (v:= .iQ id s' n' k j) h
 |j6 id s' off n'=>exact zn iX (v:= .j6 id s' off n') h
 |mp id=>exact zn iX (v:= .mp id) h
 |_=>first|rfl|simp[cN,cL]at h
theorem JH {v:V} (h:jn n v):dN ρ v=v:=by
 cases v with
 |agg cs=>simp only[dN];rw[wH (by grind[mU]) h]
 |fn f bY=>exact mU iX (v:= .fn f bY) h
 |gV t v=>exact mU iX (v:= .gV t v) h
 |sl g rows=>have:=mU iX (v:= .sl g rows) h;simpa
 |ptr id off=>exact mU iX (v:= .ptr id off) h
 |cM id s' n' lo m=>exact mU iX (v:= .cM id s' n' lo m) h
 |iQ id s' n' k j=>exact mU iX (v:= .iQ id s' n' k j) h
 |j6 id s' off n'=>exact mU iX (v:= .j6 id s' off n') h
 |mp id=>exact mU iX (v:= .mp id) h
 |_=>first|rfl|simp[jn,cN,cL]at h
theorem MD {v:V} (h:iJ n v):dI ρ v=v:=by
 cases v with
 |cy vs=>simp only[dI];rw[wH (by grind[JH]) h]
 |agg cs=>exact JH iX (v:= .agg cs) h
 |fn f bY=>exact mU iX (v:= .fn f bY) h
 |gV t v=>exact mU iX (v:= .gV t v) h
 |sl g rows=>have:=JH iX (v:= .sl g rows) h;simpa
 |ptr id off=>exact mU iX (v:= .ptr id off) h
 |cM id s' n' lo m=>exact mU iX (v:= .cM id s' n' lo m) h
 |iQ id s' n' k j=>exact mU iX (v:= .iQ id s' n' k j) h
 |j6 id s' off n'=>exact mU iX (v:= .j6 id s' off n') h
 |mp id=>exact mU iX (v:= .mp id) h
 |_=>first|rfl|simp[iJ,jn,cN,cL]at h
theorem yY {o:Ob} (h:bS n o):yA ρ o=o:=by
 cases o with
 |box cells=>simp only[yA];rw[wH (by grind[mU]) h]
 |cj rows s=>simp only[yA];rw[wH (by grind[wH,mU]) h]
 |mp dM gh cZ=>simp only[yA];rw[wH (by grind[JH]) h]
 |it m since seen last=>
  cases m with
  |none=>rfl
  |some id=>simp_all[bS,yA]
 |_=>rfl
end
theorem qC {n N i:Nat} (h:i<n):cK (List.range n) N i=i:=by
 grind[wU]
theorem QY {n0:Nat} {s loc:St} (cQ:s.all (bS s.length)) (hn:n0<=s.length):gB n0 (List.range s.length) (s++loc) s:=by
 refine⟨sm,Be,λi j o hi ho=> ?_,λi hi=> ?_⟩
 .obtain⟨hl,hj⟩:=A4.1 hi
  simp at hj hl
  subst hj
  have:bS s.length o=true:=by
   grind
  grind[yY,qC]
 grind
theorem zC {ρ:Nat->Nat} {v:V} (h:gK v):cT ρ v v:= .inl (zm h).symm
theorem zK {ρ:Nat->Nat} {g:Tag} {rows:List (List V)}:cT ρ (.sl .ro rows) (.sl g rows):= .inr sm
theorem xQ {n N:Nat} {v:V} (h:iJ n v):cT (cK (List.range n) N) v v:= .inl (by grind[MD,qC])
theorem yG {ρ:Nat->Nat}: ∀{l:List V},l.all gK=true->bP (cT ρ) l l
 | [],_=>trivial
 |v::l,h=>by
  simp only[Bl,Ab]at h
  exact⟨zC h.1,yG h.2⟩
section
variable {P:Program} {c:Ctx} {nt:Nat} {e:Env} {I:St} {K:KT} {Q:QT} {d:Option Tmp} {R:V->St->Prop} {rs:List ResultVar} {n0:Nat}
def cx (v:Option V) (n0:Nat) (R:V->St->Prop) (I:St):Prop:= ∃x,v=some x/\qv n0 R x I
@[go_sem] theorem Hi:mm P rs n0 R .ret e I=cx (ml P rs e I) n0 R I:=id rfl
@[go_sem] theorem zo:mm P rs n0 R .normal e I=cx (ml P rs e I) n0 R I:=id rfl
attribute [go_sem] ml EY CB
theorem zW {v r:V} (hr:cT (cK [] I.length) r v) (hR:R r []):cx (some v) 0 R I:=
 ⟨v,rfl,v,I,[],[],r,.refl _ _,⟨rfl,C0,sm,om⟩,hr,hR⟩
theorem mV (k:Nat) {v r:V} (hk:(I.take k).length=k) (cQ:(I.take k).all (bS k)) (hn:n0<=k) (hr:cT (cK (List.range k) I.length) r v) (hR:R r (I.take k)):cx (some v) n0 R I:=by
 have h1:I.take k++I.drop k=I:=sm
 have hp:=QY (n0:=n0) (s:=I.take k) (loc:=I.drop k) (by rw[hk];exact cQ) (by rw[hk];exact hn)
 rw[h1,hk]at hp
 exact⟨v,rfl,v,I,_,I.take k,r,.refl _ _,hp,hr,hR⟩
theorem ME (id s:Nat) (rows:List (List V)) {v:V} (cJ:I[id]? =some (.cj rows s)) (hp:xI rows) (h:cx (some (gk id rows v)) n0 R (jM id rows I)):cx (some v) n0 R I:=by
 obtain⟨x,hx,v1,I1,pick,I',r,hf,hr⟩:=h
 cases hx
 exact⟨v,rfl,v1,I1,pick,I',r,.step id s rows cJ hp hf,hr⟩
abbrev Pure (P:Program) (f:FuncId) (args:List V) (v:V):Prop:=bN P f args [] λr s=>r=v/\s= []
theorem zL {f:FuncId} {bY args cd:List V} {v:V} {KV:V->St->Prop} (hc:Pure P f cd v) (hb:xE P f) (aa:bP (cT (cK [] I.length)) cd (args++bY)) (hn:gK v) (hk:KV v I):
  jm P c (.fn f bY) args I KV fx:=by
 refine VC.of hc hb [] C0 rfl sm aa ?_
 rintro r I' ⟨rfl,rfl⟩ _
 grind[zm,yX,fI]
theorem Y4 {f:FuncId} {bY args cd:List V} {o:Ob} {i:Nat} {KV:V->St->Prop} {R:V->St->Prop} (hc:bN P f cd [o] R) (hb:xE P f) (ho:I[i]? =some o) (ab:bS 0 o)
  (aa:bP (cT (cK [i] I.length)) cd (args++bY)) (hk: ∀r I',R r I'->1<=I'.length->KV (dI (cK [i] I.length) r) (yX [i] I I')):jm P c (.fn f bY) args I KV fx:=by
 refine VC.of hc hb [i] sm rfl (λk j o' h1 h2=> ?_) aa hk
 cases k with
 |zero=>
  simp at h1 h2
  subst h1;subst h2
  rw[yY (n:=0) om ab];exact ho
 |succ k=>grind
end
def lS:Op->Nat
 | .move _| .assign _| .pick .. | .build .. | .buildSlice .. | .nilCheck _| .binOp .. | .unOp .. | .convert .. | .slice .. | .fieldAddr .. | .field .. | .indexAddr .. | .index .. | .extract .. | .makeFunc .. =>0
 | .call ⟨.builtin .len,_,_⟩| .call ⟨.builtin .min,_,_⟩| .call ⟨.builtin .max,_,_⟩=>0
 | .load .. =>1
 | .alloc .. | .box .. =>3
 |_=>4
def zZ (q:List (Nat×Nat)) (i:Nat) (o:Oper):Nat:=match q.find? (·.1==i)with|some p=>min p.2 4|none=>lS o.op
structure Kp where
 x:Nat
 n:Nat
 ex:aj0
 ob:Option (Nat×(Ob->R))
abbrev Kp.pre (n:Nat):Kp:=⟨0,n,[],none⟩
def Kp.has (k:Kp) (id:Nat):Bool:=decide (k.x<=id)&&decide (id<k.n)&& !k.ex.contains id
@[go_sem] theorem Kp.JI {n id:Nat}:(Kp.mk 0 n [] none).has id=decide (id<n):=by simp[Kp.has]
@[go_sem] theorem Kp.JJ {x n id:Nat}:(Kp.mk (x+1) n [] none).has id=(decide (x+1<=id)&&decide (id<n)):=by simp[Kp.has]
def Kp.of (k:Kp) (I:St):St×Option R:=(((I.take k.n).mapIdx λi o=>if k.ex.contains i then .dead else o).drop k.x,k.ob.bind λp=>((I.take k.n)[p.1]?).map p.2)
theorem Kp.get {k:Kp} {id:Nat} {I S:St} (h:k.has id) (ht:k.of I=k.of S):I[id]? =S[id]? :=by
 simp only[Kp.has,Ab,aiA,Dq]at h
 obtain⟨⟨h1,h2⟩,h3⟩:=h
 have e: ∀τ:St,(k.of τ).1[id - k.x]? =τ[id]? :=(by simp_all[Kp.of])
 grind
theorem Kp.lT {k:Kp} {I ext:St} (h:k.n<=I.length):k.of (I++ext)=k.of I:=by
 grind[Kp.of]
theorem Kp.iY {k:Kp} {I:St} {id:Nat} {o:Ob} (h:(id<k.x/\k.ob=none)\/k.n<=id):k.of (I.set id o)=k.of I:=by
 unfold Kp.of
 congr 1
 .refine Bi λi=> ?_
  grind
 grind
theorem Kp.zp {k:Kp} {I:St} {id:Nat} {o o':Ob} (hx:k.ex.contains id) (ho:I[id]? =some o) (hk: ∀p,k.ob=some p->p.1=id->p.2 o'=p.2 o):k.of (I.set id o')=k.of I:=by
 unfold Kp.of
 congr 1
 .congr 1
  refine Bi λi=> ?_
  grind
 .cases aa:k.ob<;>grind
def zq (a b:Nat):Bool:=(a==4&&b !=0)||(b==4&&a !=0)||(a==3&&(b==3||b==2))||(b==3&&a==2)
def oR (ops:List Oper) (o:Oper):List Tmp:=(o.op.operands.toList.filterMap λ| .tmp t=>some t|_=>none)++(match o.guard with|some (j,_)=>(j8 ops j).toList|none=> [])++(o.dst.map (100000+ ·)).toList
def cQ (P:Program) (d:Option Tmp) (e:Env) (op:Op):Prop:=lR e d=false\/ ∀e I,iu P e I op=cu P e I op
theorem qE {P:Program} {d:Option Tmp} {e:Env} {op:Op} (h:cQ P d e op) (I:St):xX P d e I op=cu P e I op:=by
 unfold xX
 rcases h with h|h
 all_goals grind
theorem Y5 {d:Option Tmp} {e e':Env} (h: ∀t,d=some t->e (100000+t)=e' (100000+t)):lR e d=lR e' d:=by
 cases d with
 |none=>rfl
 |some t=>simp only[lR,h t rfl]
def gm:List Oper->List aj0->List aj0
 | [],acc=>acc
 |o::os,acc=>gm os (acc++ [((o.after.toList.filter (Region.binds .any)).flatMap λe=>e.on::acc.getD e.on []).eraseDups])
def uF (ops:List Oper) (q:List (Nat×Nat)) (i j:Nat) (a b:Oper):Bool:=
 zq (zZ q i a) (zZ q j b)||
 (match a.dst with|some d=>(oR ops b).contains d||b.dst==some d|none=>false)||(match b.dst with|some d=>(oR ops a).contains d|none=>false)
def uG (ops:List Oper) (q:List (Nat×Nat)):Bool:=
 let b:=gm ops []
 (List.range ops.length).all λj=>(List.range j).all λi=>
  match ops[i]?,ops[j]? with
  |some x,some y=> !uF ops q i j x y||(b.getD j []).contains i
  |_,_=>true
def rO (ops:List Oper):Bool:=(List.range ops.length).all λj=>match ops[j]? with|some o=>o.after.all λe=> !Region.binds .any e||decide (e.on<j)|none=>true
section
variable {P:Program} {c:Ctx} {nt:Nat} {n0:Kp}
variable {I:St}{e:Env}{e':Env}
theorem QZ (ops:List Oper) (D:Nat->Prop) (hD: ∀(j:Nat) o,ops[j]? =some o->D j-> ∀e∈o.after.toList,Region.binds .any e=true->D e.on):
  ∀(rest pre:List Oper) (acc:List aj0),ops=pre++rest->acc.length=pre.length->(∀j l,acc[j]? =some l->D j-> ∀i∈l,D i)->
   ∀j l,(gm rest acc)[j]? =some l->D j-> ∀i∈l,D i
 | [],_,acc,_,_,h=>h
 |o::rest,pre,acc,aa,hlen,h=>by
  rw[gm]
  refine QZ ops D hD rest (pre++ [o]) _ (by grind) (by grind) λj l hj ab i hi=> ?_
  rcases xG hj with ⟨_,hj⟩|⟨hj,hl⟩
  .grind
  .have ad:j=pre.length:=om
   rw[hl]at hi
   have ae:=List.mem_eraseDups.1 hi
   grind
def CX (n0:Kp):V->Bool
 | .ptr id _=>n0.has id
 | .iQ id _ _ _ _=>n0.has id
 |_=>true
def gU (n0:Kp) (I I':St):Prop:=(∃ext,I'=I++ext)\/n0.of I'=n0.of I
theorem gU.refl {n0:Kp}:gU n0 I I:= .inr rfl
def Fact (P:Program) (c:Ctx) (nt:Nat) (n0:Kp) (ops:List Oper) (q:List (Nat×Nat)) (i:Nat) (o:Oper) (e:Env) (I:St) (v:V) (I':St):Prop:=
 (∀t,o.dst=some t->t<nt)/\(zZ q i o<3->I'=I)/\(zZ q i o=3->gU n0 I I')/\I.length<=I'.length/\
 ∃g:Bool,(match o.guard with|none=>g=true|some (j,want)=> ∃t,j8 ops j=some t/\((∃b,e t= .bool b/\g=(b==want))\/(e t= .cy []/\g=false)))/\
  (if g then(match o.op with
   | .call ⟨.value f,args,_⟩=>(if zZ q i o=0 then∀s,VC P c (zG e f) (args.toList.map (zG e)) s (λr s'=>r=v/\s'=s)else if zZ q i o=1 then∀s,n0.of s=n0.of I->VC P c (zG e f) (args.toList.map (zG e)) s (λr s'=>r=v/\s'=s)else VC P c (zG e f) (args.toList.map (zG e)) I (λr s=>r=v/\s=I'))
   |op=>(zZ q i o<3->cQ P o.dst e op)/\(zZ q i o=0->lS op=0)/\(zZ q i o=1->(∃t x,op= .load t x/\CX n0 (zG e x)=true)\/(∀t x,op≠ .load t x)/\ ∀s,n0.of s=n0.of I->cu P e s op=cu P e I op)/\
    ((xX P o.dst e I op= .ok v/\I'=I)\/(∃p,xX P o.dst e I op= .ee p v/\p/\I'=I)\/(3<=zZ q i o/\(xX P o.dst e I op= .st v I'\/ ∃p,xX P o.dst e I op= .dF p v I'/\p))))
   else v= .cy []/\I'=I)
def fY (e:Env) (d:Option Tmp) (v:V):Env:=match d with|some t=>fo e t v|none=>e
def oS (P:Program) (c:Ctx) (nt:Nat) (n0:Kp) (ops:List Oper) (q:List (Nat×Nat)):Nat->List Oper->Env->St->List (V×St)->Prop
 |_,[],_,_,[]=>True
 |i,o::os,e,I,(v,I')::tr=>Fact P c nt n0 ops q i o e I v I'/\oS P c nt n0 ops q (i+1) os (fY e o.dst v) I' tr
 |_,_,_,_,_=>False
def fE (D:Nat->Bool):Nat->List Oper->List (V×St)->Env->Env
 |i,o::os,(v,_)::tr,e=>fE D (i+1) os tr (if D i then fY e o.dst v else e)
 |_,_,_,e=>e
def fS (D:Nat->Bool) (q:List (Nat×Nat)):Nat->List Oper->List (V×St)->St->St
 |i,o::os,(_,I')::tr,s=>fS D q (i+1) os tr (if D i&&decide (3<=zZ q i o)then I' else s)
 |_,_,_,s=>s
theorem zr (e:Env) (d:Option Tmp) (v:V) (t:Tmp) (h:d=some t):fY e d v t=v:=by simp_all[fY,fo]
theorem zt (e:Env) (d:Option Tmp) (v:V) (t:Tmp) (h:d≠some t):fY e d v t=e t:=by
 cases d with
 |none=>rfl
 |some d=>simp only[fY,fo];grind
theorem qF (D D':Nat->Bool) (t:Tmp): ∀(os:List Oper) (tr:List (V×St)) (i:Nat) (e e':Env),e t=e' t->(∀(k:Nat) o,os[k]? =some o->o.dst=some t->D (i+k)=D' (i+k))->fE D i os tr e t=fE D' i os tr e' t
 | [],_,_,_,_,h,_=>by simpa
 |o::os,[],_,_,_,h,_=>by simpa
 |o::os,(v,s)::tr,i,e,e',h,hD=>by
  rw[fE,fE]
  refine qF D D' t os tr (i+1) _ _ ?_ (λk o' hk hd=>by have:=hD (k+1) o' (sU hk) hd;grind)
  by_cases hd:o.dst=some t
  .have:=hD 0 o rfl hd
   rw[D3]at this
   grind[zr]
  grind[zt]
theorem JK (D:Nat->Bool) (t:Tmp) (os:List Oper) (tr:List (V×St)) (i:Nat) (e:Env) (h: ∀(k:Nat) o,os[k]? =some o->o.dst=some t->D (i+k)=false):fE D i os tr e t=e t:=by
 have h1:=qF D (λ_=>false) t os tr i e e rfl om
 rw[h1]
 clear h h1
 induction os generalizing tr i with
 |nil=>rfl
 |cons o os ih=>cases tr<;>simp_all[fE]
theorem CY (D:Nat->Bool) (t:Tmp): ∀(os:List Oper) (tr:List (V×St)) (i k:Nat) (e:Env) (o:Oper) (v:V) (s:St),os[k]? =some o->tr[k]? =some (v,s)->o.dst=some t->D (i+k)=true->(∀(k':Nat) o',k<k'->os[k']? =some o'->o'.dst=some t->D (i+k')=false)->fE D i os tr e t=v
 | [],_,_,_,_,_,_,_,h,_,_,_,_=>by grind
 |_::_,[],_,_,_,_,_,_,_,h,_,_,_=>by grind
 |o1::os,(v1,s1)::tr,i,0,e,o,v,s,h1,h2,hd,hD,hl=>by
  simp at h1 h2
  obtain⟨rfl,rfl⟩:=h2
  subst h1
  rw[fE,aiv om,JK]
  .grind[zr]
  .intro k o' hk aa
   have:=hl (k+1) o' om (sU hk) aa
   grind
 |o1::os,(v1,s1)::tr,i,k+1,e,o,v,s,h1,h2,hd,hD,hl=>by
  rw[fE]
  refine CY D t os tr (i+1) k _ o v s (sU h1) (sU h2) hd (by rwa [show i+1+k=i+(k+1) by omega]) λk' o' ad ab aa=> ?_
  have:=hl (k'+1) o' om (sU ab) aa
  rwa [show i+1+k'=i+(k'+1) by omega]
theorem sZ (D D':Nat->Bool) (q:List (Nat×Nat)): ∀(os:List Oper) (tr:List (V×St)) (i:Nat) (s:St),(∀(k:Nat) o,os[k]? =some o->3<=zZ q (i+k) o->D (i+k)=D' (i+k))->fS D q i os tr s=fS D' q i os tr s
 | [],_,_,_,_=>by rfl
 |o::os,[],_,_,_=>by rfl
 |o::os,(v,I')::tr,i,s,h=>by
  rw[fS,fS]
  have e1:(if(D i&&decide (3<=zZ q i o))=true then I' else s)=(if(D' i&&decide (3<=zZ q i o))=true then I' else s):=by
   by_cases hk:3<=zZ q i o
   .have:=h 0 o rfl om
    grind
   grind
  rw[e1]
  exact sZ D D' q os tr (i+1) _ (λk o' hk hd=>by have:=h (k+1) o' (by grind) (by grind);grind)
theorem zu (D:Nat->Bool) (q:List (Nat×Nat)) (os:List Oper) (tr:List (V×St)) (i:Nat) (s:St) (h: ∀(k:Nat) o,os[k]? =some o->3<=zZ q (i+k) o->D (i+k)=false):fS D q i os tr s=s:=by
 have h1:=sZ D (λ_=>false) q os tr i s h
 rw[h1]
 clear h h1
 induction os generalizing tr i with
 |nil=>rfl
 |cons o os ih=>cases tr<;>simp_all[fS]
theorem FD (D:Nat->Bool) (q:List (Nat×Nat)): ∀(os:List Oper) (tr:List (V×St)) (i k:Nat) (s:St) (o:Oper) (v:V) (I':St),os[k]? =some o->tr[k]? =some (v,I')->3<=zZ q (i+k) o->D (i+k)=true->(∀(k':Nat) o',k<k'->os[k']? =some o'->3<=zZ q (i+k') o'->D (i+k')=false)->fS D q i os tr s=I'
 | [],_,_,_,_,_,_,_,h,_,_,_,_=>by grind
 |_::_,[],_,_,_,_,_,_,_,h,_,_,_=>by grind
 |o1::os,(v1,s1)::tr,i,0,s,o,v,I',h1,h2,hd,hD,hl=>by
  simp at h1 h2
  obtain⟨rfl,rfl⟩:=h2
  subst h1
  rw[D3]at hd hD
  rw[fS,aiv (by grind),zu]
  intro k o' hk aa
  have:=hl (k+1) o' om (by grind) (by grind)
  grind
 |o1::os,(v1,s1)::tr,i,k+1,s,o,v,I',h1,h2,hd,hD,hl=>by
  rw[fS]
  refine FD D q os tr (i+1) k _ o v I' (sU h1) (sU h2) (by rwa [show i+1+k=i+(k+1) by omega]) (by rwa [show i+1+k=i+(k+1) by omega]) λk' o' ad ab aa=> ?_
  have:=hl (k'+1) o' om (sU ab) (by rwa [show i+(k'+1)=i+1+k' by omega])
  rwa [show i+1+k'=i+(k'+1) by omega]
theorem FE (ops:List Oper) (q:List (Nat×Nat)): ∀(os:List Oper) (tr:List (V×St)) (i:Nat) (e:Env) (I:St),oS P c nt n0 ops q i os e I tr->
  tr.length=os.length/\ ∀(k:Nat) o,os[k]? =some o-> ∃v I',tr[k]? =some (v,I')/\Fact P c nt n0 ops q (i+k) o (fE (λj=>decide (j<i+k)) i os tr e) (fS (λj=>decide (j<i+k)) q i os tr I) v I'
 | [],[],_,_,_,_=>sm
 | [],_::_,_,_,_,h=>h.elim
 |_::_,[],_,_,_,h=>h.elim
 |o::os,(v,I')::tr,i,e,I,⟨hf,ht⟩=>by
  obtain⟨hl,aa⟩:=FE ops q os tr (i+1) _ _ ht
  refine⟨by grind,λk o' hk=> ?_⟩
  cases k with
  |zero=>
   simp at hk
   subst hk
   refine⟨v,I',rfl, ?_⟩
   rw[D3,fE,fS]
   have h1:(if(λj=>decide (j<i)) i=true then fY e o.dst v else e)=e:=sm
   have h2:(if((λj=>decide (j<i)) i&&decide (3<=zZ q i o))=true then I' else I)=I:=sm
   rw[h1,h2]
   have e1:fE (λj=>decide (j<i)) (i+1) os tr e=e:=by
    funext t
    grind[JK]
   grind[zu]
  |succ k=>
   obtain⟨v2,s2,h1,h2⟩:=aa k o' (by grind)
   refine⟨v2,s2,by grind, ?_⟩
   rw[show i+(k+1)=i+1+k by omega]
   rw[fE,fS,aiv (by grind)]
   have hs:(if((λj=>decide (j<i+1+k)) i&&decide (3<=zZ q i o))=true then I' else I)=I':=by
    by_cases ab:3<=zZ q i o
    .grind
    .rw[aiu (by grind)]
     exact(hf.2.1 om).symm
   grind
theorem MF (op:Op) (h: ∀x∈op.operands.toList,zG e x=zG e' x):cu P e I op=cu P e' I op:=by
 have hl: ∀l:List Operand,(∀x∈l,zG e x=zG e' x)->l.map (zG e)=l.map (zG e'):=sm
 have cW: ∀ps:List (Nat×Operand),(∀x∈ps.map (·.2),zG e x=zG e' x)->(ps.map λp=>(p.1,zG e p.2))=(ps.map λp=>(p.1,zG e' p.2)):=λps hp=>
  B9 (by grind)
 cases op with
 |build t ps=>grind[cu,Op.operands]
 |buildSlice t n ps=>grind[cu,Op.operands]
 |makeFunc fn first bY=>grind[cu,Op.operands]
 |slice t x lo hi mx=>cases lo<;>cases hi<;>cases mx<;>simp_all[cu,Op.operands]
 |makeMap t r=>cases r<;>simp_all[cu,Op.operands]
 |next x b=>cases b<;>simp_all[cu,Op.operands]
 |call cl=>
  obtain⟨aa,args,ts⟩:=cl
  cases aa with
  |builtin b=>
   have h': ∀x∈args.toList,zG e x=zG e' x:=(by grind[Op.operands,Call.operands])
   obtain⟨args⟩:=args
   cases b<;>simp only[cu]
   all_goals grind
  |_=>simp only[cu]
 |_=>first|rfl|(simp_all[cu,Op.operands];done)
theorem Y6 (op:Op) (h: ∀x∈op.operands.toList,zG e x=zG e' x):iu P e I op=iu P e' I op:=by
 have hc:=MF (P:=P) (I:=I) op h
 have cW: ∀ps:List (Nat×Operand),(∀x∈ps.map (·.2),zG e x=zG e' x)->(ps.map λp=>(p.1,zG e p.2))=(ps.map λp=>(p.1,zG e' p.2)):=λps hp=>
  B9 (by grind)
 cases op with
 |buildSlice t n ps=>grind[iu,Op.operands]
 |makeSlice t l m=>grind[iu,Op.operands]
 |convert t t' x=>grind[iu,Op.operands]
 |slice t x lo hi mx=>
  cases lo with
  |none=>exact hc
  |some lo=>cases hi with
   |some _=>exact hc
   |none=>cases mx<;>grind[iu,Op.operands]
 |next x b=>cases b<;>simp_all[iu,Op.operands]
 |call cl=>
  obtain⟨aa,args,ts⟩:=cl
  cases aa with
  |builtin b=>
   have h': ∀x∈args.toList,zG e x=zG e' x:=(by grind[Op.operands,Call.operands])
   obtain⟨args⟩:=args
   cases b
   case append=>simp only[iu];grind
   all_goals simpa
  |_=>exact hc
 |_=>exact hc
theorem Y7 {d:Option Tmp} (op:Op) (hd:lR e d=lR e' d) (h: ∀x∈op.operands.toList,zG e x=zG e' x):xX P d e I op=xX P d e' I op:=by
 grind[xX,MF,Y6]
theorem Y8 {I':St} (o:Oper) (hc: ∀f az ts,o.op≠ .call ⟨.value f,az,ts⟩) (h:lS o.op=0):cu P e I o.op=cu P e I' o.op:=by
 obtain⟨dst,op,ty,pos,dX,g⟩:=o
 simp only at h hc⊢
 cases op with
 |call cl=>
  obtain⟨aa,args,ts⟩:=cl
  cases aa with
  |builtin b=>obtain⟨args⟩:=args;cases b<;>first|(simp[lS]at h;done)|(simp only[cu];done)|(simp only[cu];split<;>first|rfl|contradiction|(rename_i heq;simp at heq))
  |value f=>rfl
  |_=>rfl
 |slice t x lo hi mx=>cases lo<;>cases hi<;>cases mx<;>rfl
 |_=>first|rfl|(simp[lS]at h;done)
section
variable {e:Env} {I:St} {a:Act} {w:World} {L:Nat->Nat} {J:aj1}
theorem JL {ops:List Oper} {Q:Exit->Act->World->Prop} {next:Act->World->Prop} (o:Oper) {K:Env->St->Prop} (h:dQ c nt e I a w L J) (hK:uA o.guard ops e (jE P c nt o.dst o.op K e I) (fc nt o.dst (.cy []) K e I))
  (hn: ∀e' I' a' w' L' J',dQ c nt e' I' a' w' L' J'->K e' I'->next a' w'):
  if Region.wanted o (yielded ops.toArray a.tmps)then o.wp P a w next Q\/(o.asks P a w/\LetsOut Q)else next (a.put o.dst undef) w:=by
 have no:fc nt o.dst (.cy []) K e I->next (a.put o.dst undef) w:=λhv=>by
  obtain⟨e',hs,hk⟩:=EX h h.mem (Le.refl _ _) (Ext.refl _ _) (show dD w L I J (.cy []) undef from⟨[],rfl,tV⟩) hv
  grind
 unfold uA at hK
 split at hK
 .rename_i hg
  rw[aiv (by grind[Region.wanted])]
  grind[Jm]
 .rename_i j want hg
  split at hK
  .rename_i t ht
   have hv:=h.env t
   unfold kI at hK
   split at hK
   .rename_i b hb
    rw[hb]at hv
    have hv:=pO hv
    have hy:yielded ops.toArray a.tmps j=some b:=by
     unfold yielded
     unfold j8 at ht
     have aa:(ops.toArray[j]?).bind (·.dst)=some t:=by grind
     rw[aa]
     simp only[Ax]
     have ab:t<a.tmps.size:=by
      rcases Bv t a.tmps.size with q|q
      .exact q
      .simp[Array.getD,Nat.not_lt.2 q,undef]at hv
     simp_all
    by_cases ad:b=want
    .rw[aiv (by grind[Region.wanted])]
     grind[Jm]
    simp_all[Region.wanted]
   .rename_i hb
    rw[hb]at hv
    rw[aiu (by grind[Region.wanted,QR])]
    grind
   grind
  grind
theorem zw {d:Option Tmp} {v:V} {K:Env->St->Prop} (hd: ∀t,d=some t->t<nt) (h:K (fY e d v) I):fc nt d v K e I:=by
 cases d with
 |none=>exact h
 |some t=>exact⟨hd t rfl,h⟩
theorem Y9 {t:TypeId} {S:St} {x:V} (h:CX n0 x) (ht:n0.of I=n0.of S):ng P t I x=ng P t S x:=by
 cases x with
 |ptr id off=>
  have:I[id]? =S[id]? :=Kp.get h ht
  grind[ng]
 |iQ id s n k j=>
  have:I[id]? =S[id]? :=Kp.get h ht
  grind[ng]
 |_=>rfl
theorem Fact.step {ops:List Oper} {q:List (Nat×Nat)} {i:Nat} {o:Oper} {E:Env} {S:St} {v:V} {I':St} (hf:Fact P c nt n0 ops q i o E S v I') (he: ∀t∈oR ops o,e t=E t) (hs:2<=zZ q i o->I=S) (h1:zZ q i o=1->n0.of I=n0.of S):
  uA o.guard ops e (jE P c nt o.dst o.op (λe' s'=>e'=fY e o.dst v/\s'=if 3<=zZ q i o then I' else I) e I) (fc nt o.dst (.cy []) (λe' s'=>e'=fY e o.dst v/\s'=if 3<=zZ q i o then I' else I) e I):=by
 obtain⟨hd,aw,_,_,g,hg,hb⟩:=hf
 have ai: ∀x∈o.op.operands.toList,zG e x=zG E x:=λx hx=>by
  cases x with
  |tmp t=>exact he t (aiP _ (by grind))
  |_=>rfl
 have keep:I'=S->(if 3<=zZ q i o then I' else I)=I:=(by grind)
 have yes:g=true->jE P c nt o.dst o.op (λe' s'=>e'=fY e o.dst v/\s'=if 3<=zZ q i o then I' else I) e I:=by
  intro an
  rw[aiv an]at hb
  unfold jE
  split
  .rename_i f args ts ab
   rw[ab]at hb ai
   simp only at hb
   have ao:=h1
   have h1:zG e f=zG E f:=(by grind[Op.operands,Call.operands])
   have h2:args.toList.map (zG e)=args.toList.map (zG E):=(by grind[B9,Op.operands,Call.operands])
   rw[h1,h2]
   split at hb
   .rename_i aq
    refine(hb I).mono ?_
    rintro x s' ⟨rfl,rfl⟩
    exact zw hd (by grind)
   .rename_i aq
    split at hb
    .rename_i aa
     refine(hb I (ao aa)).mono ?_
     rintro x s' ⟨rfl,rfl⟩
     exact zw hd (by grind)
    rename_i aa
    rw[hs om]
    refine hb.mono ?_
    rintro x s' ⟨rfl,rfl⟩
    refine zw hd ⟨rfl, ?_⟩
    grind
  .rename_i ax
   have ad:(zZ q i o<3->cQ P o.dst E o.op)/\(zZ q i o=0->lS o.op=0)/\(zZ q i o=1->(∃t x,o.op= .load t x/\CX n0 (zG E x)=true)\/(∀t x,o.op≠ .load t x)/\ ∀s,n0.of s=n0.of S->cu P E s o.op=cu P E S o.op)/\((xX P o.dst E S o.op= .ok v/\I'=S)\/(∃p,xX P o.dst E S o.op= .ee p v/\p/\I'=S)\/(3<=zZ q i o/\(xX P o.dst E S o.op= .st v I'\/ ∃p,xX P o.dst E S o.op= .dF p v I'/\p))):=by
    grind
   obtain⟨hh,hz,ho,ad⟩:=ad
   have ay:lR e o.dst=lR E o.dst:=(by grind[Y5,oR])
   have ae:xX P o.dst e I o.op=xX P o.dst E S o.op:=by
    by_cases h3:zZ q i o<3
    .have aj:=hh h3
     have ar:cQ P o.dst e o.op:=by
      unfold cQ at aj⊢
      grind
     rw[qE ar,qE aj,MF o.op ai]
     by_cases h0:zZ q i o=0
     .grind[Y8]
     .by_cases aa:zZ q i o=1
      .rcases ho aa with ⟨t,x,ab,ak⟩|⟨_,ak⟩
       .rw[ab]
        exact Y9 ak (h1 aa)
       grind
      grind
    grind[Y7]
   rw[ae]
   rcases ad with ⟨hr,hq⟩|⟨p,hr,hp,hq⟩|⟨h2,hr|⟨p,hr,hp⟩⟩
   .rw[hr];exact zw (K:=(λe' s'=>e'=fY e o.dst v/\s'=if 3<=zZ q i o then I' else I)) hd (by grind)
   .rw[hr];exact⟨hp,zw (K:=(λe' s'=>e'=fY e o.dst v/\s'=if 3<=zZ q i o then I' else I)) hd (by grind)⟩
   .rw[hr]
    show fc nt o.dst v (λe' s'=>e'=fY e o.dst v/\s'=if 3<=zZ q i o then I' else I) e I'
    exact zw (K:=(λe' s'=>e'=fY e o.dst v/\s'=if 3<=zZ q i o then I' else I)) hd (by grind)
   .rw[hr]
    show p/\fc nt o.dst v (λe' s'=>e'=fY e o.dst v/\s'=if 3<=zZ q i o then I' else I) e I'
    exact⟨hp,zw (K:=(λe' s'=>e'=fY e o.dst v/\s'=if 3<=zZ q i o then I' else I)) hd (by grind)⟩
 have no:g=false->fc nt o.dst (.cy []) (λe' s'=>e'=fY e o.dst v/\s'=if 3<=zZ q i o then I' else I) e I:=by
  intro au
  rw[aiu (by simp[au])]at hb
  obtain⟨rfl,hq⟩:=hb
  exact zw hd (by grind)
 unfold uA
 split
 .grind
 .rename_i j want av
  rw[av]at hg
  obtain⟨t,ht,af⟩:=hg
  rw[ht]
  simp only
  have:e t=E t:=he t (aiP _ (by grind))
  rcases af with ⟨b,ah,al⟩|⟨ah,al⟩
  .rw[this,ah]
   exact⟨(by grind),(by grind)⟩
  .rw[this,ah]
   exact no al
end
variable {ops:List Oper}{q:List (Nat×Nat)}{i:Nat}{j:Nat}{tr:List (V×St)}
theorem yV {a b:Oper} (h:uF ops q i j a b=false):
  zq (zZ q i a) (zZ q j b)=false/\(∀d,a.dst=some d->d∉oR ops b/\b.dst≠some d)/\(∀d,b.dst=some d->d∉oR ops a):=by
 grind[uF]
theorem wF (q:List (Nat×Nat)) (i:Nat) (o:Oper):zZ q i o<=4:=by
 unfold zZ
 split
 .omega
 .unfold lS
  grind
theorem zy {a b:Nat} (ha:3<=a) (aa:a<=4) (hb:2<=b) (ab:b<=4):zq a b=true:=by
 have h1:a=3\/a=4:=om
 have h2:b=2\/b=3\/b=4:=om
 rcases h1 with rfl|rfl<;>rcases h2 with rfl|rfl|rfl<;>rfl
theorem JM (a b:Nat):zq a b=zq b a:=by
 grind[zq]
theorem JN {b:Nat} (hb:1<=b):zq 4 b=true:=by
 grind[zq]
theorem JO {e0:Env} {cv:St} (ht:oS P c nt n0 ops q 0 ops e0 cv tr) (hn:n0.n<=cv.length):
  ∀(d j:Nat),j+d<=ops.length->(∀(m:Nat) o,j<=m->m<j+d->ops[m]? =some o->zZ q m o≠4)->
   n0.n<=(fS (λx=>decide (x<j)) q 0 ops tr cv).length/\n0.of (fS (λx=>decide (x<j+d)) q 0 ops tr cv)=n0.of (fS (λx=>decide (x<j)) q 0 ops tr cv):=by
 obtain⟨_,aa⟩:=FE ops q ops tr 0 e0 cv ht
 have next: ∀k,k<ops.length-> ∃o v I',ops[k]? =some o/\Fact P c nt n0 ops q k o (fE (λj=>decide (j<k)) 0 ops tr e0) (fS (λj=>decide (j<k)) q 0 ops tr cv) v I'/\fS (λj=>decide (j<k+1)) q 0 ops tr cv=I':=by
  intro k hk
  obtain⟨v,I',ab,hf⟩:=aa k ops[k] sm
  rw[Ad]at hf
  refine⟨ops[k],v,I',sm,hf, ?_⟩
  by_cases h3:3<=zZ q k ops[k]
  .refine FD _ q ops tr 0 k cv ops[k] v I' sm ab (by grind) sm (by grind)
  .have:=hf.2.1 om
   rw[this]
   refine sZ _ _ q ops tr 0 cv λm o' hm ad=> ?_
   grind
 have len: ∀j,j<=ops.length->n0.n<=(fS (λx=>decide (x<j)) q 0 ops tr cv).length:=by
  intro j
  induction j with
  |zero=>grind[zu]
  |succ j ih=>
   intro hj
   obtain⟨o,v,I',_,hf,he⟩:=next j om
   rw[he]
   exact Aw om hf.2.2.2.1
 intro d
 induction d with
 |zero=>grind
 |succ d ih=>
  intro j hj h4
  obtain⟨h1,h2⟩:=ih j om (by grind)
  refine⟨h1, ?_⟩
  obtain⟨o,v,I',ho,hf,he⟩:=next (j+d) om
  rw[show j+(d+1)=j+d+1 by omega,he,<-h2]
  have ae:=h4 (j+d) o om om ho
  have hle:=wF q (j+d) o
  by_cases h3:zZ q (j+d) o=3
  .rcases hf.2.2.1 h3 with ⟨ext,hx⟩|hx
   .rw[hx,Kp.lT (len (j+d) om)]
   omega
  .rw[hf.2.1 om]
theorem vY (h:uG ops q) {x y:Oper} (aa:i<j) (hx:ops[i]? =some x) (hy:ops[j]? =some y):
  uF ops q i j x y=false\/i∈(gm ops []).getD j []:=by
 unfold uG at h
 grind
theorem CZ {D:Nat->Bool} (hD: ∀(j:Nat) o,ops[j]? =some o->D j=true-> ∀e∈o.after.toList,Region.binds .any e=true->D e.on) (hi:i∈(gm ops []).getD j []) (hj:D j):D i=true:=by
 rw[Al]at hi
 cases hb:(gm ops [])[j]? with
 |none=>grind
 |some l=>
  rw[hb]at hi
  exact QZ ops (λk=>D k=true) hD ops [] [] rfl rfl sm j l hb hj i (by grind)
theorem Q0 {l:Array Bool} (h:l[i]? =some false):(l.setIfInBounds i true).toList.count false+1=l.toList.count false:=by
 grind
theorem Za {Q:Exit->Env->St->Prop} {e0:Env} {cv:St} (hn:n0.n<=cv.length) (hd:uG ops q) (aw:rO ops) (ht:oS P c nt n0 ops q 0 ops e0 cv tr)
  (hQ:Q .normal (fE (λ_=>true) 0 ops tr e0) (fS (λ_=>true) q 0 ops tr cv)):
  ∀(fuel:Nat) (bM:Array Bool) (a:Act) (w:World) (L:Nat->Nat) (J:aj1),bM.size=ops.length->bM.toList.count false=fuel->
   (∀(j:Nat) o,ops[j]? =some o->bM.getD j false=true-> ∀e∈o.after.toList,Region.binds .any e=true->bM.getD e.on false=true)->
   dQ c nt (fE (λi=>bM.getD i false) 0 ops tr e0) (fS (λi=>bM.getD i false) q 0 ops tr cv) a w L J->
   wpAny P .any ops.toArray (fu c nt Q) fuel bM a w:=by
 obtain⟨ax,aJ⟩:=FE ops q ops tr 0 e0 cv ht
 have fin: ∀(bM:Array Bool) (a:Act) (w:World) (L:Nat->Nat) (J:aj1),dQ c nt (fE (λi=>bM.getD i false) 0 ops tr e0) (fS (λi=>bM.getD i false) q 0 ops tr cv) a w L J->
   (∀i,i<ops.length->bM.getD i false=true)->fu c nt Q .normal a w:=by
  intro bM a w L J hs ab
  have e1:fE (λi=>bM.getD i false) 0 ops tr e0=fE (λ_=>true) 0 ops tr e0:=by
   funext t
   exact qF _ _ t ops tr 0 e0 e0 rfl λk o hk _=>by rw[Ad];exact ab k (A4.1 hk).1
  have e2:fS (λi=>bM.getD i false) q 0 ops tr cv=fS (λ_=>true) q 0 ops tr cv:=
   sZ _ _ q ops tr 0 cv λk o hk _=>by rw[Ad];exact ab k (A4.1 hk).1
  rw[e1,e2]at hs
  exact⟨_,_,L,J,hs,hQ⟩
 have ay: ∀(bM:Array Bool),bM.size=ops.length->Region.ready .any ops.toArray bM= []-> ∀i,i<ops.length->bM.getD i false=true:=by
  intro bM aj hr i
  induction i using Nat.strongRecOn with
  |ind i ih=>
   intro hi
   cases ao:bM.getD i false with
   |true=>rfl
   |false=>
    exfalso
    have hm:i∈Region.ready .any ops.toArray bM:=by
     refine mem_ready.2 ⟨?_,ops[i],by simp[hi],λe he hb=> ?_⟩
     .have af:i<bM.size:=om
      simpa[Array.getD,af]using ao
     .unfold rO at aw
      simp only[Am,Cn]at aw
      have:=aw i hi
      rw[A0 hi]at this
      simp only[Ch]at this
      have:=this e he
      simp only[hb,Bool.not_true,C5,aiA]at this
      exact ih e.on this om
    rw[hr]at hm
    cases hm
 intro fuel
 induction fuel with
 |zero=>
  intro bM a w L J aj aB aq hs
  have ab: ∀i,i<ops.length->bM.getD i false:=by
   intro i hi
   have af:i<bM.size:=om
   cases ao:bM[i]with
   |true=>simp[Array.getD,af,ao]
   |false=>
    exfalso
    have:false∈bM.toList:=by
     rw[<-ao];simp
    have:=List.count_pos_iff.2 this
    omega
  refine⟨?_,fin bM a w L J hs ab⟩
  cases hr:Region.ready .any ops.toArray bM with
  |nil=>rfl
  |cons i l=>
   exfalso
   have hm:i∈Region.ready .any ops.toArray bM:=by rw[hr];simp
   obtain⟨h1,o,ho,_⟩:=mem_ready.1 hm
   have hi:i<ops.length:=(A4.1 (sU ho)).1
   have:=ab i hi
   have af:i<bM.size:=om
   simp[Array.getD,af]at this h1
   rw[this]at h1
   cases h1
 |succ fuel ih=>
  intro bM a w L J aj aB aq hs
  refine⟨λhr=>fin bM a w L J hs (ay bM aj hr),λi hi=> ?_⟩
  obtain⟨h1,o,ho,az⟩:=mem_ready.1 hi
  have aa:ops[i]? =some o:=sU ho
  have af:i<bM.size:=by rw[aj];exact(A4.1 aa).1
  have ar:bM.getD i false=false:=by
   simp[Array.getD,af]at h1⊢;exact h1
  have ai: ∀k,k≠i->(bM.setIfInBounds i true).getD k false=bM.getD k false:=λk hk=>getD_set_ne false (λq=>hk q.symm)
  have a1:(bM.setIfInBounds i true).getD i false:=by simp[Array.getD,af]
  have av: ∀(j:Nat) o,ops[j]? =some o->(bM.setIfInBounds i true).getD j false=true-> ∀e∈o.after.toList,Region.binds .any e=true->(bM.setIfInBounds i true).getD e.on false=true:=by
   intro j o' hj aC e he hb
   by_cases aD:j=i
   .subst aD
    rw[aa]at hj
    cases hj
    exact getD_set_true (az e (sU he) hb)
   .rw[ai j aD]at aC
    exact getD_set_true (aq j o' hj aC e he hb)
  have ahead: ∀{k:Nat},k≠i->k∈(gm ops []).getD i []->bM.getD k false=true:=fun{k} hk hb=>by
   have:=CZ (D:=λj=>(bM.setIfInBounds i true).getD j false) av hb a1
   rwa [ai k hk]at this
  have nv: ∀{k:Nat},i∈(gm ops []).getD k []->bM.getD k false=false:=fun{k} hb=>by
   cases hk:bM.getD k false with
   |false=>rfl
   |true=>
    have:=CZ (D:=λj=>bM.getD j false) aq hb hk
    rw[ar]at this;cases this
  obtain⟨v,I',aE,ak⟩:=aJ i o aa
  rw[Ad]at ak
  have aF: ∀t∈oR ops o,fE (λi=>bM.getD i false) 0 ops tr e0 t=fE (λj=>decide (j<i)) 0 ops tr e0 t:=by
   intro t ax
   refine qF _ _ t ops tr 0 e0 e0 rfl λk o' hk ae=> ?_
   rw[Ad]
   rcases Bc k i with ad|ad|ad
   .rw[aix ad]
    rcases vY hd ad hk aa with hc|hb
    .exact absurd ax ((yV hc).2.1 t ae).1
    .exact ahead om hb
   .subst ad;rw[ar];simp
   .rw[aiw om]
    rcases vY hd ad aa hk with hc|hb
    .exact absurd ax ((yV hc).2.2 t ae)
    .exact nv hb
  have au:2<=zZ q i o->fS (λi=>bM.getD i false) q 0 ops tr cv=fS (λj=>decide (j<i)) q 0 ops tr cv:=by
   intro ah
   refine sZ _ _ q ops tr 0 cv λk o' hk ae=> ?_
   rw[Ad]at ae⊢
   rcases Bc k i with ad|ad|ad
   .rw[aix ad]
    rcases vY hd ad hk aa with hc|hb
    .have:=(yV hc).1
     rw[zy ae (wF _ _ _) ah (wF _ _ _)]at this
     cases this
    .exact ahead om hb
   .subst ad;rw[ar];simp
   .rw[aiw om]
    rcases vY hd ad aa hk with hc|hb
    .have:=(yV hc).1
     rw[JM,zy ae (wF _ _ _) ah (wF _ _ _)]at this
     cases this
    .exact nv hb
  have aG:zZ q i o=1->n0.of (fS (λi=>bM.getD i false) q 0 ops tr cv)=n0.of (fS (λj=>decide (j<i)) q 0 ops tr cv):=by
   intro aH
   have pre: ∀N,N<=ops.length-> ∃m,m<=N/\ ∀k o',k<N->ops[k]? =some o'->3<=zZ q k o'->bM.getD k false=decide (k<m):=by
    intro N
    induction N with
    |zero=>exact λ_=>⟨0,A7 _,λk o' h=>om⟩
    |succ N aK=>
     intro hN
     obtain⟨m,hm,ab⟩:=aK om
     have aI:=A0 (show N<ops.length by omega)
     by_cases hw:3<=zZ q N (ops[N]'om)/\bM.getD N false=true
     .refine⟨N+1,A7 _,λk o' hk al h3=> ?_⟩
      rw[aix hk]
      by_cases a6:k=N
      .subst a6;exact hw.2
      .rcases vY hd (show k<N by omega) al aI with hc|hb
       .have:=(yV hc).1
        rw[zy h3 (wF _ _ _) om (wF _ _ _)]at this
        cases this
       .exact CZ (D:=λj=>bM.getD j false) aq hb hw.2
     .refine⟨m,om,λk o' hk al h3=> ?_⟩
      by_cases a6:k=N
      .subst a6
       rw[aI]at al;cases al
       rw[aiw om]
       cases hl:bM.getD k false with
       |false=>rfl
       |true=>exact absurd ⟨h3,hl⟩ hw
      .exact ab k o' om al h3
   obtain⟨m,hm,ab⟩:=pre ops.length (A7 _)
   have e1:fS (λi=>bM.getD i false) q 0 ops tr cv=fS (λx=>decide (x<m)) q 0 ops tr cv:=
    sZ _ _ q ops tr 0 cv λk o' hk h3=>by
     rw[Ad]at h3⊢
     exact ab k o' (A4.1 hk).1 hk h3
   rw[e1]
   have aQ:i<ops.length:=(A4.1 aa).1
   rcases Nat.le_total m i with aL|aL
   .have:=(JO ht hn (i - m) m om (λk o' h5 h6 hk h4=>by
     have h7:=ab k o' (A4.1 hk).1 hk om
     rw[aiw om]at h7
     rcases vY hd (show k<i by omega) hk aa with hc|hb
     .have:=(yV hc).1
      rw[h4,aH,JN dC]at this
      cases this
     .rw[ahead om hb]at h7;cases h7)).2
    rw[show m+(i - m)=i by omega]at this
    exact this.symm
   .have:=(JO ht hn (m - i) i om (λk o' h5 h6 hk h4=>by
     have h7:=ab k o' (A4.1 hk).1 hk om
     rw[aix om]at h7
     have ad:k≠i:=λqq=>by
      subst qq
      rw[hk]at aa;cases aa
      omega
     rcases vY hd (show i<k by omega) aa hk with hc|hb
     .have:=(yV hc).1
      rw[JM,h4,aH,JN dC]at this
      cases this
     .rw[nv hb]at h7;cases h7)).2
    rw[show i+(m - i)=m by omega]at this
    exact this
  have aP:=JL (ops:=ops) (Q:=fu c nt Q) (next:=wpAny P .any ops.toArray (fu c nt Q) fuel (bM.setIfInBounds i true)) o hs (ak.step aF au aG) (by
   rintro e' s' a' w' L' J' aR ⟨rfl,rfl⟩
   refine ih _ a' w' L' J' (sU aj) ?_ av ?_
   .have:=Q0 (l:=bM) (i:=i) (by
     rw[B3 af]
     have:=ar
     simp[Array.getD,af]at this
     rw[this])
    omega
   .have e1:fY (fE (λi=>bM.getD i false) 0 ops tr e0) o.dst v=fE (λk=>(bM.setIfInBounds i true).getD k false) 0 ops tr e0:=by
     funext t
     by_cases an:o.dst=some t
     .rw[zr _ _ _ _ an]
      refine(CY _ t ops tr 0 i e0 o v I' aa aE an (by rw[Ad];exact a1) λk' o' a7 a8 aA=> ?_).symm
      rw[Ad,ai k' om]
      rcases vY hd a7 aa a8 with hc|hb
      .exact absurd aA ((yV hc).2.1 t an).2
      .exact nv hb
     .rw[zt _ _ _ _ an]
      refine qF _ _ t ops tr 0 e0 e0 rfl λk o' hk ae=> ?_
      rw[Ad]
      refine(ai k λq=> ?_).symm
      subst q
      rw[aa]at hk;cases hk
      exact an ae
    have e2:(if 3<=zZ q i o then I' else fS (λi=>bM.getD i false) q 0 ops tr cv)=fS (λk=>(bM.setIfInBounds i true).getD k false) q 0 ops tr cv:=by
     split
     .rename_i ah
      refine(FD _ q ops tr 0 i cv o v I' aa aE (by rw[Ad];exact ah) (by rw[Ad];exact a1) λk' o' a7 a8 aA=> ?_).symm
      rw[Ad]at aA⊢
      rw[ai k' om]
      rcases vY hd a7 aa a8 with hc|hb
      .have:=(yV hc).1
       rw[zy ah (wF _ _ _) om (wF _ _ _)]at this
       cases this
      .exact nv hb
     .rename_i ah
      refine sZ _ _ q ops tr 0 cv λk o' hk ae=> ?_
      rw[Ad]at ae⊢
      refine(ai k λq=> ?_).symm
      subst q
      rw[aa]at hk;cases hk
      exact ah ae
    grind)
  grind[wpOp]
theorem VW.draw {id:Nat} {Q:Exit->Env->St->Prop} {e:Env} {I:St} (hm:P.follows .mixedOrders) (hn:n0.n<=I.length) (hd:uG ops q) (aa:rO ops)
  (ht:oS P c nt n0 ops q 0 ops e I tr) (hQ:Q .normal (fE (λ_=>true) 0 ops tr e) (fS (λ_=>true) q 0 ops tr I)):VW P c nt (.region id ops.toArray true) Q e I:=by
 intro a w L J hs
 refine wp_region_any hm ?_
 have hg: ∀j,(Array.replicate ops.toArray.size false).getD j false=false:=(by simp[Array.getD])
 have e1:fE (λi=>(Array.replicate ops.toArray.size false).getD i false) 0 ops tr e=e:=by
  funext t
  grind[JK]
 have e2:fS (λi=>(Array.replicate ops.toArray.size false).getD i false) q 0 ops tr I=I:=(by grind[zu])
 refine Za hn hd aa ht hQ _ _ a w.drew L J sm sm (by grind) ?_
 rw[e1,e2]
 obtain⟨ab,hle⟩:=hs.mem.drew
 exact⟨ab,hs.size,hs.defs,λt=>(hs.env t).mono hle (Ext.refl _ _)⟩
end
def qG:R->Bool
 | .st .. | .dF .. =>true
 |_=>false
def z6:R->Bool
 | .all _| .any _=>true
 |_=>false
def jN (n0:Kp) (k:Nat) (I:St):R->Prop
 | .st _ I'| .dF _ _ I'=>I.length<=I'.length/\(k=3->gU n0 I I')
 |_=>True
def fU (P:Program) (c:Ctx) (nt:Nat) (n0:Kp) (k:Nat) (d:Option Tmp) (op:Op) (K:KT) (e:Env) (I:St):Prop:=
 match op with
 | .call ⟨.value f,args,_⟩=> ∃v I',(if k=0 then∀s,VC P c (zG e f) (args.toList.map (zG e)) s (λr s'=>r=v/\s'=s)else if k=1 then∀s,n0.of s=n0.of I->VC P c (zG e f) (args.toList.map (zG e)) s (λr s'=>r=v/\s'=s)else VC P c (zG e f) (args.toList.map (zG e)) I (λr s=>r=v/\s=I'))/\
   (k<3->I'=I)/\(k=3->gU n0 I I')/\I.length<=I'.length/\fc nt d v K e I'
 |op=>(k<3->cQ P d e op)/\z6 (xX P d e I op)=false/\(k=0->lS op=0)/\(k=1->(∃t x,op= .load t x/\CX n0 (zG e x)=true)\/(∀t x,op≠ .load t x)/\ ∀s,n0.of s=n0.of I->cu P e s op=cu P e I op)/\(qG (xX P d e I op)=true->3<=k)/\jN n0 k I (xX P d e I op)/\mh nt d (xX P d e I op) K e I
def rP (P:Program) (c:Ctx) (nt:Nat) (n0:Kp) (ops:List Oper) (q:List (Nat×Nat)):Nat->List Oper->KT->Env->St->Prop
 |_,[],K,e,I=>K e I
 |i,o::os,K,e,I=>uA o.guard ops e (fU P c nt n0 (zZ q i o) o.dst o.op (rP P c nt n0 ops q (i+1) os K) e I) (fc nt o.dst (.cy []) (rP P c nt n0 ops q (i+1) os K) e I)
section
variable {P:Program} {c:Ctx} {nt:Nat} {n0:Kp}
variable {x:Operand}{t:TypeId}{op:Op}{f:FuncId}{bY:List V}{cd:List V}{KV:V->St->Prop}{ops:List Oper}{i:Nat}{y:Operand}{s1:St}{q:List (Nat×Nat)}{n:Nat}{ts:Array TypeId}
theorem MG {d:Option Tmp} {v:V} {K:KT} {e:Env} {I:St} (h:fc nt d v K e I):(∀t,d=some t->t<nt)/\K (fY e d v) I:=by
 cases d<;>simpa
theorem DA {ops:List Oper} {q:List (Nat×Nat)}: ∀(os:List Oper) (i:Nat) (K:KT) (e:Env) (I:St),rP P c nt n0 ops q i os K e I->
  ∃tr,oS P c nt n0 ops q i os e I tr/\K (fE (λ_=>true) i os tr e) (fS (λ_=>true) q i os tr I)
 | [],i,K,e,I,h=>⟨[],tV,h⟩
 |o::os,i,K,e,I,h=>by
  have go: ∀(v:V) (I':St),Fact P c nt n0 ops q i o e I v I'->rP P c nt n0 ops q (i+1) os K (fY e o.dst v) I'-> ∃tr,oS P c nt n0 ops q i (o::os) e I tr/\K (fE (λ_=>true) i (o::os) tr e) (fS (λ_=>true) q i (o::os) tr I):=by
   intro v I' hf hk
   obtain⟨tr,ht,hK⟩:=DA os (i+1) K _ _ hk
   refine⟨(v,I')::tr,⟨hf,ht⟩, ?_⟩
   rw[fE,fS,aiv rfl]
   have:(if((λ_=>true) i&&decide (3<=zZ q i o))=true then I' else I)=I':=by
    by_cases h2:3<=zZ q i o
    .grind
    .rw[aiu (by simp[h2])];exact(hf.2.1 om).symm
   grind
  have yes:(match o.guard with|none=>True|some (j,want)=> ∃t b,j8 ops j=some t/\e t= .bool b/\b=want)->fU P c nt n0 (zZ q i o) o.dst o.op (rP P c nt n0 ops q (i+1) os K) e I->
    ∃tr,oS P c nt n0 ops q i (o::os) e I tr/\K (fE (λ_=>true) i (o::os) tr e) (fS (λ_=>true) q i (o::os) tr I):=by
   intro hg hv
   have af: ∃g:Bool,(match o.guard with|none=>g=true|some (j,want)=> ∃t,j8 ops j=some t/\((∃b,e t= .bool b/\g=(b==want))\/(e t= .cy []/\g=false)))/\g=true:=by
    refine⟨true, ?_,rfl⟩
    grind
   obtain⟨g,ab,rfl⟩:=af
   unfold fU at hv
   split at hv
   .rename_i f args ts aj
    obtain⟨v,I',ak,ah,h3,hlen,hp⟩:=hv
    obtain⟨hd,hk⟩:=MG hp
    refine go v I' ⟨hd,ah,h3,hlen,true,ab, ?_⟩ hk
    grind
   .rename_i al
    obtain⟨an,ad,hz,ao,ae,aa,hv⟩:=hv
    have done: ∀v I',(zZ q i o<3->I'=I)->(zZ q i o=3->gU n0 I I')->I.length<=I'.length->
      ((xX P o.dst e I o.op= .ok v/\I'=I)\/(∃p,xX P o.dst e I o.op= .ee p v/\p/\I'=I)\/(3<=zZ q i o/\(xX P o.dst e I o.op= .st v I'\/ ∃p,xX P o.dst e I o.op= .dF p v I'/\p)))->
      fc nt o.dst v (rP P c nt n0 ops q (i+1) os K) e I'-> ∃tr,oS P c nt n0 ops q i (o::os) e I tr/\K (fE (λ_=>true) i (o::os) tr e) (fS (λ_=>true) q i (o::os) tr I):=by
     intro v I' h2 h3 hlen hf hp
     obtain⟨hd,hk⟩:=MG hp
     refine go v I' ⟨hd,h2,h3,hlen,true,ab, ?_⟩ hk
     grind
    cases hr:xX P o.dst e I o.op with
    |all f=>rw[hr]at ad;trivial
    |any l=>rw[hr]at ad;trivial
    |fail=>rw[hr]at hv;trivial
    |ok v=>rw[hr]at hv;exact done v I sm (λ_=>gU.refl) om (by grind) hv
    |ee p v=>rw[hr]at hv;exact done v I sm (λ_=>gU.refl) om (.inr (.inl ⟨p,hr,hv.1,rfl⟩)) hv.2
    |st v I'=>
     rw[hr]at hv aa
     have h3:=ae (by rw[hr];rfl)
     exact done v I' om aa.2 aa.1 (by grind) hv
    |dF p v I'=>
     rw[hr]at hv aa
     have h3:=ae (by rw[hr];rfl)
     exact done v I' om aa.2 aa.1 (.inr (.inr ⟨h3,.inr ⟨p,hr,hv.1⟩⟩)) hv.2
  have no:(∃j want t,o.guard=some (j,want)/\j8 ops j=some t/\((∃b,e t= .bool b/\b≠want)\/e t= .cy []))->fc nt o.dst (.cy []) (rP P c nt n0 ops q (i+1) os K) e I->
    ∃tr,oS P c nt n0 ops q i (o::os) e I tr/\K (fE (λ_=>true) i (o::os) tr e) (fS (λ_=>true) q i (o::os) tr I):=by
   rintro⟨j,want,t,hg,h1,h2⟩ hv
   obtain⟨hd,hk⟩:=MG hv
   refine go (.cy []) I ⟨hd,λ_=>rfl,λ_=>gU.refl,om,false, ?_, ?_⟩ hk
   all_goals grind
  unfold rP uA at h
  split at h
  .grind
  .rename_i j want hg
   split at h
   .rename_i t ht
    unfold kI at h
    split at h
    .rename_i b hb
     by_cases ai:b=want
     .grind
     .exact no (by grind) (h.2 ai)
    .rename_i hb
     exact no (by grind) h
    grind
   grind
def rQ (P:Program) (c:Ctx) (nt:Nat) (n0:Kp) (ops:List Oper) (q:List (Nat×Nat)) (i:Nat) (l:List Oper) (K:KT) (_:Fx ops) (_:Fx l) (_:Fx K) (e:Env) (I:St):Prop:=rP P c nt n0 ops q i l K e I
def eL (P:Program) (c:Ctx) (nt:Nat) (n0:Kp) (k:Nat) (d:Option Tmp) (op:Op) (K:KT) (_:Fx op) (_:Fx K) (e:Env) (I:St):Prop:=fU P c nt n0 k d op K e I
def pQ (P:Program) (c:Ctx) (n0:Kp) (k:Nat) (fv:V) (az:List V) (I:St) (K:V->St->Prop) (_:Fx K):Prop:=
 ∃v I',(if k=0 then∀s,VC P c fv az s (λr s'=>r=v/\s'=s)else if k=1 then∀s,n0.of s=n0.of I->VC P c fv az s (λr s'=>r=v/\s'=s)else VC P c fv az I (λr s=>r=v/\s=I'))/\(k<3->I'=I)/\(k=3->gU n0 I I')/\I.length<=I'.length/\K v I'
theorem yE {id:Nat} {Q:QT} {e:Env} {I:St} (q:List (Nat×Nat)) (n0:Nat) (hn:I.length=n0) (hm:P.follows .mixedOrders) (hd:(uG ops q&&rO ops)) (h:rQ P c nt (Kp.pre n0) ops q 0 ops (Q .normal) fx fx fx e I):gE P c nt (.region id ops.toArray true) Q fx fx e I:=by
 simp only[Ab]at hd
 obtain⟨tr,ht,hK⟩:=DA ops 0 (Q .normal) e I h
 exact VW.draw (n0:=Kp.pre n0) hm (by grind) hd.1 hd.2 ht hK
def MH (q:List (Nat×Nat)) (i:Nat) (op:Op):Nat:=match q.find? (·.1==i)with|some p=>min p.2 4|none=>lS op
variable {e:Env} {I:St} {K:KT} {Q:QT} {d:Option Tmp} {k:Nat}
@[go_sem] theorem JP:rQ P c nt n0 ops q i [] K fx fx fx e I=K e I:=id rfl
@[go_sem] theorem Hj {rest:List Oper} {ty:TypeId} {pos:String} {dX:Array Edge}:rQ P c nt n0 ops q i (⟨d,op,ty,pos,dX,none⟩::rest) K fx fx fx e I=
  eL P c nt n0 (MH q i op) d op (rQ P c nt n0 ops q (i+1) rest K fx fx fx) fx fx e I:=id rfl
@[go_sem] theorem FF {rest:List Oper} {ty:TypeId} {pos:String} {dX:Array Edge} {j:Nat} {want:Bool}:rQ P c nt n0 ops q i (⟨d,op,ty,pos,dX,some (j,want)⟩::rest) K fx fx fx e I=
  CC (sX ops fx j) want e (eL P c nt n0 (MH q i op) d op (rQ P c nt n0 ops q (i+1) rest K fx fx fx) fx fx e I) (iI nt d (.cy []) (rQ P c nt n0 ops q (i+1) rest K fx fx fx) fx e I) fx fx:=id rfl
attribute [go_sem] MH CX
theorem FG (op:Op) (h:lS op<3):qG (cu P e I op)=false:=by
 cases op with
 |call cl=>
  obtain⟨aa,⟨args⟩,ts⟩:=cl
  cases aa with
  |builtin b=>
   cases b
   case len=>simp only[cu];split<;>first|rfl|(rename_i heq;simp at heq;done)|(unfold yg;(repeat' split)<;>rfl)
   case min=>simp only[cu];unfold qh;(repeat' split)<;>rfl
   case max=>simp only[cu];unfold qh;(repeat' split)<;>rfl
   all_goals trivial
  |_=>rfl
 |slice t x lo hi mx=>cases lo<;>cases hi<;>cases mx<;>simp only[cu]<;>first|rfl|(unfold sI;(repeat' split)<;>rfl)|(unfold yj;(repeat' split)<;>rfl)
 |move x=>rfl
 |assign x=>rfl
 |pick x y z=>simp only[cu];unfold x9;(repeat' split)<;>rfl
 |build t ps=>simp only[cu];unfold yh;(repeat' split)<;>rfl
 |buildSlice t n ps=>simp only[cu];unfold vH;(repeat' split)<;>rfl
 |nilCheck x=>simp only[cu];unfold ya;(repeat' split)<;>rfl
 |binOp o t x y t'=>simp only[cu];unfold vC GN yw mS BO BP;(repeat' split)<;>rfl
 |unOp o t x=>simp only[cu];unfold nf;(repeat' split)<;>rfl
 |convert t t' x=>simp only[cu];unfold vI;(repeat' split)<;>rfl
 |fieldAddr t x f=>simp only[cu];unfold ye;(repeat' split)<;>rfl
 |field t x f=>simp only[cu];unfold yl;(repeat' split)<;>rfl
 |indexAddr t x i=>simp only[cu];unfold vF;(repeat' split)<;>rfl
 |index t x i=>simp only[cu];unfold vG;(repeat' split)<;>rfl
 |extract x i=>simp only[cu];unfold yc;(repeat' split)<;>rfl
 |makeFunc fn l m=>simp only[cu];unfold ym;(repeat' split)<;>rfl
 |load t x=>simp only[cu];unfold ng;(repeat' split)<;>first|rfl|(unfold rI;(repeat' split)<;>rfl)
 |_=>first|(simp[lS]at h;done)|rfl
theorem vZ (op:Op) (h: ∀o t x y t',op≠ .binOp o t x y t'):z6 (cu P e I op)=false:=by
 cases op with
 |call cl=>
  obtain⟨aa,⟨args⟩,ts⟩:=cl
  cases aa with
  |builtin b=>
   cases b
   case len=>simp only[cu];split<;>first|rfl|(rename_i heq;simp at heq;done)|(unfold yg;(repeat' split)<;>rfl)
   case append=>simp only[cu];split<;>first|rfl|(rename_i heq;simp at heq;done)|(unfold sE;(repeat' split)<;>rfl)
   case clear=>simp only[cu];split<;>first|rfl|(rename_i heq;simp at heq;done)|(unfold vL;(repeat' split)<;>rfl)
   case delete=>simp only[cu];split<;>first|rfl|(rename_i heq;simp at heq;done)|(unfold yv;(repeat' split)<;>rfl)
   case min=>simp only[cu];unfold qh;(repeat' split)<;>rfl
   case max=>simp only[cu];unfold qh;(repeat' split)<;>rfl
   all_goals rfl
  |_=>rfl
 |slice t x lo hi mx=>cases lo<;>cases hi<;>cases mx<;>simp only[cu]<;>first|rfl|(unfold sI;(repeat' split)<;>rfl)|(unfold yj;(repeat' split)<;>rfl)
 |pick x y z=>simp only[cu];unfold x9;(repeat' split)<;>rfl
 |alloc t=>simp only[cu];unfold rJ;(repeat' split)<;>rfl
 |box t x=>simp only[cu];unfold vE;(repeat' split)<;>rfl
 |store t x y=>simp only[cu];unfold vD;(repeat' split)<;>rfl
 |makeSlice t l m=>simp only[cu];unfold vJ;(repeat' split)<;>rfl
 |build t ps=>simp only[cu];unfold yh;(repeat' split)<;>rfl
 |buildSlice t n ps=>simp only[cu];unfold vH;(repeat' split)<;>rfl
 |nilCheck x=>simp only[cu];unfold ya;(repeat' split)<;>rfl
 |binOp o t x y t'=>grind
 |unOp o t x=>simp only[cu];unfold nf;(repeat' split)<;>rfl
 |convert t t' x=>simp only[cu];unfold vI;(repeat' split)<;>rfl
 |fieldAddr t x f=>simp only[cu];unfold ye;(repeat' split)<;>rfl
 |field t x f=>simp only[cu];unfold yl;(repeat' split)<;>rfl
 |indexAddr t x i=>simp only[cu];unfold vF;(repeat' split)<;>rfl
 |index t x i=>simp only[cu];unfold vG;(repeat' split)<;>rfl
 |extract x i=>simp only[cu];unfold yc;(repeat' split)<;>rfl
 |makeFunc fn l m=>simp only[cu];unfold ym;(repeat' split)<;>rfl
 |load t x=>simp only[cu];unfold ng;(repeat' split)<;>first|rfl|(unfold rI;(repeat' split)<;>rfl)
 |makeMap t r=>simp only[cu];unfold yt;(repeat' split)<;>rfl
 |lookup t x k ok=>simp only[cu];unfold xZ;(repeat' split)<;>rfl
 |mapUpdate t x k v=>simp only[cu];unfold xW;(repeat' split)<;>rfl
 |insert t x k v=>simp only[cu];unfold xW;(repeat' split)<;>rfl
 |range t x=>simp only[cu];unfold yx;(repeat' split)<;>rfl
 |entry x=>simp only[cu];unfold qo;(repeat' split)<;>rfl
 |makeInterface t x=>simp only[cu];unfold yz;(repeat' split)<;>rfl
 |mapEntry t x k=>simp only[cu];unfold wD;(repeat' split)<;>rfl
 |entryStore t x k v=>simp only[cu];unfold xT;(repeat' split)<;>rfl
 |next x b=>cases b<;>simp only[cu]<;>first|rfl|(unfold nj;(repeat' split)<;>first|rfl|contradiction)
 |_=>rfl
theorem z7 {r:R} (h:qG r=false):jN n0 k I r:=by
 cases r<;>first|trivial|cases h
theorem s7 (hA: ∀o t x y t',op≠ .binOp o t x y t') (hL: ∀e I,iu P e I op=cu P e I op) (h:lS op=0) (hc: ∀f az ts,op≠ .call ⟨.value f,az,ts⟩):eL P c nt n0 0 d op K fx fx e I=eJ P c nt d op K fx fx e I:=by
 show fU P c nt n0 0 d op K e I=jE P c nt d op K e I
 have hh:cQ P d e op:= .inr hL
 unfold fU jE
 split
 .grind
 .have:=FG (P:=P) (e:=e) (I:=I) op om
  split
  .grind
  grind[z7,qE,vZ]
theorem MI (hA: ∀o t x y t',op≠ .binOp o t x y t') (h:lS op=0) (hc: ∀f az ts,op≠ .call ⟨.value f,az,ts⟩):eL P c nt n0 0 d op K fx fx e I=sW (cQ P d e op) (eJ P c nt d op K fx fx e I) fx:=by
 show fU P c nt n0 0 d op K e I=(cQ P d e op/\jE P c nt d op K e I)
 by_cases hh:cQ P d e op
 .unfold fU jE
  split
  .grind
  .have:=FG (P:=P) (e:=e) (I:=I) op om
   split
   .grind
   grind[z7,qE,vZ]
 .unfold fU
  grind
@[go_sem] theorem Q1 (h:lR e d=false):cQ P d e op=True:=by grind[cQ]
theorem MJ:cQ P d e (.load t x):= .inr λ_ _=>rfl
theorem Zb:eL P c nt n0 1 d (.load t x) K fx fx e I=sW (CX n0 (zG e x)=true) (eJ P c nt d (.load t x) K fx fx e I) fx:=by
 show fU P c nt n0 1 d (.load t x) K e I=(_/\jE P c nt d (.load t x) K e I)
 have:=FG (P:=P) (e:=e) (I:=I) (.load t x) (show 1<3 by omega)
 have h2:jN n0 1 I (cu P e I (.load t x)):=z7 this
 have hA:=vZ (P:=P) (e:=e) (I:=I) (.load t x) (λ_ _ _ _ _ h=>by cases h)
 simp only[fU,jE,this,h2,qE MJ,hA]
 refine propext ⟨λh=> ?_,λh=> ?_⟩
 .grind
 .exact⟨λ_=>MJ,tV,om,(by grind),sm,tV,h.2⟩
theorem Zc:eL P c nt n0 2 d (.load t x) K fx fx e I=eJ P c nt d (.load t x) K fx fx e I:=by
 show fU P c nt n0 2 d (.load t x) K e I=jE P c nt d (.load t x) K e I
 have:=FG (P:=P) (e:=e) (I:=I) (.load t x) (show 1<3 by omega)
 grind[z7,vZ,fU,jE,qE,MJ]
theorem MK:jN n0 4 I (cu P e I op):=by
 by_cases h:lS op<3
 .grind[z7,FG]
 .cases op with
  |alloc t=>simp only[cu];unfold rJ;(repeat' split)<;>first|trivial|exact⟨sm,om⟩
  |box t x=>simp only[cu];unfold vE;(repeat' split)<;>first|trivial|exact⟨sm,om⟩
  |store t x y=>simp only[cu];unfold vD;(repeat' split)<;>first|trivial|exact⟨sm,om⟩
  |makeSlice t l m=>simp only[cu];unfold vJ;(repeat' split)<;>first|trivial|exact⟨sm,om⟩
  |makeMap t r=>simp only[cu];unfold yt;(repeat' split)<;>first|trivial|exact⟨sm,om⟩
  |lookup t x k ok=>simp only[cu];unfold xZ;(repeat' split)<;>trivial
  |mapUpdate t x k v=>simp only[cu];unfold xW;(repeat' split)<;>first|trivial|exact⟨sm,om⟩
  |insert t x k v=>simp only[cu];unfold xW;(repeat' split)<;>first|trivial|exact⟨sm,om⟩
  |range t x=>simp only[cu];unfold yx;(repeat' split)<;>first|trivial|exact⟨sm,om⟩
  |entry x=>simp only[cu];unfold qo;(repeat' split)<;>trivial
  |makeInterface t x=>simp only[cu];unfold yz;(repeat' split)<;>trivial
  |mapEntry t x k=>simp only[cu];unfold wD;(repeat' split)<;>first|trivial|exact⟨sm,om⟩
  |entryStore t x s v=>simp only[cu];unfold xT;(repeat' split)<;>first|trivial|exact⟨sm,om⟩
  |next x b=>cases b<;>simp only[cu]<;>first|trivial|(unfold nj;(repeat' split)<;>first|trivial|exact⟨sm,om⟩)
  |call cl=>
   obtain⟨aa,⟨args⟩,ts⟩:=cl
   cases aa with
   |builtin b=>
    cases b
    case append=>simp only[cu];split<;>first|trivial|(rename_i heq;simp at heq;done)|(unfold sE;(repeat' split)<;>first|trivial|exact⟨sm,om⟩)
    case clear=>simp only[cu];split<;>first|trivial|(rename_i heq;simp at heq;done)|(unfold vL;(repeat' split)<;>first|trivial|exact⟨sm,om⟩)
    case delete=>simp only[cu];split<;>first|trivial|(rename_i heq;simp at heq;done)|(unfold yv;(repeat' split)<;>first|trivial|exact⟨sm,om⟩)
    all_goals first|(simp[lS]at h;done)|trivial
   |_=>trivial
  |slice t x lo hi mx=>grind[lS]
  |_=>first|(simp[lS]at h;done)|trivial
theorem Q2 (op:Op) (hA: ∀o t x y t',op≠ .binOp o t x y t') (hN: ∀x b,op≠ .next x b):z6 (iu P e I op)=false:=by
 have h:=vZ (P:=P) (e:=e) (I:=I) op hA
 cases op with
 |buildSlice t n ps=>simp only[iu];unfold vM;(repeat' split)<;>rfl
 |makeSlice t l m=>simp only[iu];unfold vK;(repeat' split)<;>rfl
 |convert t t' x=>simp only[iu];unfold yn;(repeat' split)<;>rfl
 |slice t x lo hi mx=>
  cases lo with
  |none=>exact h
  |some lo=>cases hi with
   |some _=>exact h
   |none=>cases mx with
    |some _=>exact h
    |none=>simp only[iu];unfold yi;(repeat' split)<;>rfl
 |next x b=>grind
 |call cl=>
  obtain⟨aa,⟨args⟩,ts⟩:=cl
  cases aa with
  |builtin b=>
   cases b
   case append=>simp only[iu];split<;>first|exact h|(rename_i heq;simp at heq;done)|(unfold sG;(repeat' split)<;>rfl)
   all_goals simpa
  |_=>exact h
 |_=>exact h
theorem Zd:jN n0 4 I (iu P e I op):=by
 have h:jN n0 4 I (cu P e I op):=MK
 cases op with
 |buildSlice t n ps=>simp only[iu];unfold vM;(repeat' split)<;>first|trivial|exact⟨sm,om⟩
 |makeSlice t l m=>simp only[iu];unfold vK;(repeat' split)<;>first|trivial|exact⟨sm,om⟩
 |convert t t' x=>simp only[iu];unfold yn;(repeat' split)<;>first|trivial|exact⟨sm,om⟩
 |slice t x lo hi mx=>
  cases lo with
  |none=>exact h
  |some lo=>cases hi with
   |some _=>exact h
   |none=>cases mx with
    |some _=>exact h
    |none=>simp only[iu];unfold yi;(repeat' split)<;>first|trivial|exact⟨sm,om⟩
 |next x b=>cases b<;>simp only[iu]<;>first|exact h|(unfold nj;(repeat' split)<;>first|trivial|exact⟨sm,om⟩)
 |call cl=>
  obtain⟨aa,⟨args⟩,ts⟩:=cl
  cases aa with
  |builtin b=>
   cases b
   case append=>simp only[iu];split<;>first|exact h|(rename_i heq;simp at heq;done)|(unfold sG;(repeat' split)<;>first|trivial|exact⟨sm,om⟩)
   all_goals simpa
  |_=>exact h
 |_=>exact h
theorem ML (hA: ∀o t x y t',op≠ .binOp o t x y t') (hN: ∀x b,op≠ .next x b) (hc: ∀f az ts,op≠ .call ⟨.value f,az,ts⟩):eL P c nt n0 4 d op K fx fx e I=eJ P c nt d op K fx fx e I:=by
 show fU P c nt n0 4 d op K e I=jE P c nt d op K e I
 have h1:z6 (xX P d e I op)=false:=by
  grind[xX,Q2,vZ]
 have h2:jN n0 4 I (xX P d e I op):=by
  grind[xX,Zd,MK]
 unfold fU jE
 grind
theorem JQ (hA: ∀o t x y t',op≠ .binOp o t x y t') (hN: ∀x b,op≠ .next x b) (_: ∀e I,iu P e I op=cu P e I op) (hc: ∀f az ts,op≠ .call ⟨.value f,az,ts⟩):eL P c nt n0 4 d op K fx fx e I=eJ P c nt d op K fx fx e I:=ML hA hN hc
theorem JR (hA: ∀o t x y t',op≠ .binOp o t x y t') (hL: ∀e I,iu P e I op=cu P e I op) (h2:jN n0 3 I (cu P e I op)) (hc: ∀f az ts,op≠ .call ⟨.value f,az,ts⟩):eL P c nt n0 3 d op K fx fx e I=eJ P c nt d op K fx fx e I:=by
 show fU P c nt n0 3 d op K e I=jE P c nt d op K e I
 have hh:cQ P d e op:= .inr hL
 unfold fU jE
 split
 .grind
 .split
  .grind
  grind[qE,vZ]
def Kp.out (k:Kp) (id:Nat):Bool:=(decide (id<k.x)&&k.ob.isNone)||decide (k.n<=id)
@[go_sem] theorem Kp.JS {id:Nat}:(Kp.mk 0 n [] none).out id=decide (n<=id):=by rfl
@[go_sem] theorem Kp.JT {x id:Nat}:(Kp.mk (x+1) n [] none).out id=(decide (id<x+1)||decide (n<=id)):=by simp[Kp.out]
def nv (n0:Kp):V->Bool
 | .ptr id _=>n0.out id
 | .iQ id _ _ _ _=>n0.out id
 |_=>false
attribute [go_sem] nv
@[go_sem] theorem z8 (h:nv n0 (zG e x)):eL P c nt n0 3 d (.store t x y) K fx fx e I=eJ P c nt d (.store t x y) K fx fx e I:=
 JR sm (λ_ _=>rfl) (by
  simp only[cu]
  unfold vD
  split
  .rename_i id off hx
   rw[hx]at h
   have h:n0.out id:=h
   simp only[Kp.out,Ce,Ab,Option.isNone_iff_eq_none,aiA]at h
   (repeat' split)<;>first|trivial|exact⟨sm,λ_=> .inr (Kp.iY h)⟩
  .rename_i id s n k j hx
   rw[hx]at h
   have h:n0.out id:=h
   simp only[Kp.out,Ce,Ab,Option.isNone_iff_eq_none,aiA]at h
   (repeat' split)<;>first|trivial|exact⟨sm,λ_=> .inr (Kp.iY h)⟩
  trivial) sm
@[go_sem] theorem FH:eL P c nt n0 0 d (.move x) K fx fx e I=eJ P c nt d (.move x) K fx fx e I:=s7 sm (λ_ _=>rfl) rfl sm
@[go_sem] theorem AA:eL P c nt n0 0 d (.assign x) K fx fx e I=eJ P c nt d (.assign x) K fx fx e I:=s7 sm (λ_ _=>rfl) rfl sm
@[go_sem] theorem FI {z:Operand}:eL P c nt n0 0 d (.pick x y z) K fx fx e I=eJ P c nt d (.pick x y z) K fx fx e I:=s7 sm (λ_ _=>rfl) rfl sm
@[go_sem] theorem DB {l:Array (Nat×Operand)}:eL P c nt n0 0 d (.build t l) K fx fx e I=eJ P c nt d (.build t l) K fx fx e I:=s7 sm (λ_ _=>rfl) rfl sm
@[go_sem] theorem rR {l:Array (Nat×Operand)}:eL P c nt n0 0 d (.buildSlice t n l) K fx fx e I=sW (cQ P d e (.buildSlice t n l)) (eJ P c nt d (.buildSlice t n l) K fx fx e I) fx:=MI sm rfl sm
@[go_sem] theorem Hk:eL P c nt n0 0 d (.nilCheck x) K fx fx e I=eJ P c nt d (.nilCheck x) K fx fx e I:=s7 sm (λ_ _=>rfl) rfl sm
theorem Ze {op:BinOp} {t':TypeId}:eL P c nt n0 0 d (.binOp op t x y t') K fx fx e I=sW (z6 (wh (pP y) (vC op (iR P t) (zG e x)) (wh (rL y) (yw op (ni P t) (zG e x)) (mS op (iR P t) (kz P t) (zG e x) (zG e y))))=false) (eJ P c nt d (.binOp op t x y t') K fx fx e I) fx:=by
 show fU P c nt n0 0 d (.binOp op t x y t') K e I=(z6 (cu P e I (.binOp op t x y t'))=false/\jE P c nt d (.binOp op t x y t') K e I)
 have hh:cQ P d e (.binOp op t x y t'):= .inr λ_ _=>rfl
 grind[FG,z7,fU,jE,qE,lS]
attribute [go_sem] Ze z6
@[go_sem] theorem JU {op:UnOp}:eL P c nt n0 0 d (.unOp op t x) K fx fx e I=eJ P c nt d (.unOp op t x) K fx fx e I:=s7 sm (λ_ _=>rfl) rfl sm
@[go_sem] theorem FJ {t':TypeId}:eL P c nt n0 0 d (.convert t t' x) K fx fx e I=sW (cQ P d e (.convert t t' x)) (eJ P c nt d (.convert t t' x) K fx fx e I) fx:=MI sm rfl sm
@[go_sem] theorem DC {lo hi mx:Option Operand}:eL P c nt n0 0 d (.slice t x lo hi mx) K fx fx e I=sW (cQ P d e (.slice t x lo hi mx)) (eJ P c nt d (.slice t x lo hi mx) K fx fx e I) fx:=MI sm rfl sm
@[go_sem] theorem s8 {f:Nat}:eL P c nt n0 0 d (.fieldAddr t x f) K fx fx e I=eJ P c nt d (.fieldAddr t x f) K fx fx e I:=s7 sm (λ_ _=>rfl) rfl sm
@[go_sem] theorem v7 {i:Operand}:eL P c nt n0 0 d (.indexAddr t x i) K fx fx e I=eJ P c nt d (.indexAddr t x i) K fx fx e I:=s7 sm (λ_ _=>rfl) rfl sm
@[go_sem] theorem Hl {i:Operand}:eL P c nt n0 0 d (.index t x i) K fx fx e I=eJ P c nt d (.index t x i) K fx fx e I:=s7 sm (λ_ _=>rfl) rfl sm
@[go_sem] theorem v8:eL P c nt n0 0 d (.extract x i) K fx fx e I=eJ P c nt d (.extract x i) K fx fx e I:=s7 sm (λ_ _=>rfl) rfl sm
@[go_sem] theorem Hm {l:Array Operand}:eL P c nt n0 0 d (.call ⟨.builtin .len,l,ts⟩) K fx fx e I=eJ P c nt d (.call ⟨.builtin .len,l,ts⟩) K fx fx e I:=s7 sm (λ_ _=>rfl) rfl sm
@[go_sem] theorem DD:eL P c nt n0 4 d (.store t x y) K fx fx e I=eJ P c nt d (.store t x y) K fx fx e I:=JQ sm sm (λ_ _=>rfl) sm
@[go_sem] theorem AB {l:Array Operand}:eL P c nt n0 4 d (.call ⟨.builtin .append,l,ts⟩) K fx fx e I=eJ P c nt d (.call ⟨.builtin .append,l,ts⟩) K fx fx e I:=(by simp[ML])
@[go_sem] theorem DE:eL P c nt n0 3 d (.alloc t) K fx fx e I=eJ P c nt d (.alloc t) K fx fx e I:=JR sm (λ_ _=>rfl) (by
 simp only[cu];unfold rJ;split<;>first|trivial|exact⟨sm,λ_=> .inl ⟨_,rfl⟩⟩) sm
attribute [go_sem] Zb Zc
@[go_sem] theorem FK {f:Operand} {l:List Operand}:eL P c nt n0 k d (.call ⟨.value f,l.toArray,ts⟩) K fx fx e I=pQ P c n0 k (zG e f) (l.map (zG e)) I (My nt d K fx e) fx:=id rfl
attribute [go_sem] lS
theorem wZ {args:List V} {v:V} (hc:Pure P f cd v) (hb:xE P f) (aa: ∀N,bP (cT (cK [] N)) cd (args++bY)) (hn:gK v) (hk:KV v I):
  pQ P c n0 0 (.fn f bY) args I KV fx:=by
 refine⟨v,I, ?_,λ_=>rfl,om,om,hk⟩
 rw[aiv rfl]
 exact λs=>zL (P:=P) (c:=c) (KV:=λr s'=>r=v/\s'=s) hc hb (aa _) hn sm
theorem FL {dg:aj0} {I:St}:(yX dg I s1).length=I.length+(s1.length - dg.length):=by
 grind[yX,np]
theorem Q3 {args:List V} {fi:St} {v:V} (hc:bN P f cd fi (λr s=>r=v/\s=s1)) (hb:xE P f) (dg:aj0) (ab:dg.Nodup) (hlen:fi.length=dg.length)
  (ad: ∀(i j:Nat) (o:Ob),dg[i]? =some j->fi[i]? =some o->I[j]? =some (yA (cK dg I.length) o)) (aa:bP (cT (cK dg I.length)) cd (args++bY))
  (hk:KV (dI (cK dg I.length) v) (yX dg I s1)):pQ P c n0 4 (.fn f bY) args I KV fx:=by
 refine⟨_,_, ?_,om,om,by grind[FL],hk⟩
 rw[aiu dC,aiu dC]
 refine VC.of hc hb dg ab hlen ad aa ?_
 simp
theorem FM {args:List V} {fi:St} {v:V} (hc:bN P f cd fi (λr s=>r=v/\s=s1)) (hb:xE P f) (dg:aj0) (ab:dg.Nodup) (hlen:fi.length=dg.length)
  (ad: ∀(i j:Nat) (o:Ob),dg[i]? =some j->fi[i]? =some o->I[j]? =some (yA (cK dg I.length) o)) (aa:bP (cT (cK dg I.length)) cd (args++bY)) (ae:gU n0 I (yX dg I s1))
  (hk:KV (dI (cK dg I.length) v) (yX dg I s1)):pQ P c n0 3 (.fn f bY) args I KV fx:=by
 refine⟨_,_, ?_,om,(by grind),by grind[FL],hk⟩
 rw[aiu dC,aiu dC]
 refine VC.of hc hb dg ab hlen ad aa ?_
 simp
theorem FN {args:List V} {v:V} (hc:bN P f cd [] (λr s=>r=v/\s=s1)) (hb:xE P f)
  (aa:bP (cT (cK [] I.length)) cd (args++bY)) (hk:KV (dI (cK [] I.length) v) (I++s1.map (yA (cK [] I.length)))):pQ P c n0 3 (.fn f bY) args I KV fx:=by
 have e:yX [] I s1=I++s1.map (yA (cK [] I.length)):=by rfl
 exact FM hc hb [] C0 rfl sm aa (.inl ⟨_,e⟩) (by grind)
theorem Zf {args:List V} {v:V} (hc:Pure P f cd v) (hb:xE P f) (hf: ∀s,n0.of s=n0.of I-> ∃aa I1,ot (args++bY) s aa I1/\bP (cT (cK [] I1.length)) cd aa)
  (ab:GZ v) (hk:KV v I):pQ P c n0 1 (.fn f bY) args I KV fx:=by
 refine⟨v,I, ?_,λ_=>rfl,om,om,hk⟩
 rw[aiu dC,aiv rfl]
 intro s hs
 obtain⟨aa,I1,h1,h2⟩:=hf s hs
 exact VC.view hc hb h1 h2 (by grind) sm
end
def At (n0:Nat) (keep:aj0) (vs:List V) (s:St) (e:Env) (I:St):Prop:=
 ∃pick,gB n0 pick I s/\bP (cT (cK pick I.length)) vs (keep.map e)
def Next {S:Type} (p:S->Prop) (_:Fx p):Prop:= ∃s,p s
theorem zI {S:Type} {p:S->Prop} (s:S) (h:p s):Next p fx:=⟨s,h⟩
section
variable {P:Program} {c:Ctx} {nt:Nat} {e:Env} {I:St} {a:Act} {w:World} {L:Nat->Nat} {J:aj1} {Q:QT} {n0:Nat}
variable {keep:aj0}{vs:List V}{y:Code}{f:FuncId}{code:Code}{x:Code}{fn:Func}{rs:List ResultVar}{bY:List V}{cd:List V}{KV:V->St->Prop}
theorem zA (h:ou P c nt code Q fx fx e I):gE P c nt code Q fx fx e I:=rM code Q e I h
theorem JV {K:KT} (h:gE P c nt x (y6 K Q fx fx) fx fx e I) (hy: ∀e' I',K e' I'->gE P c nt y Q fx fx e' I'):gE P c nt (.seq x y) Q fx fx e I:=by
 intro a w L J hs
 refine wp_seq (wp_mono (h a w L J hs) λex a' w' q=> ?_)
 cases ex with
 |normal=>obtain⟨e',I',L',J',aa,hq⟩:=q;exact hy e' I' hq a' w' L' J' aa
 |exit id=>exact q
 |goto l=>exact q
 |ret=>exact q
 |panic ch=>exact q
 |outgrown=>exact q
theorem zN (h:gE P c nt x (y6 (gE P c nt y Q fx fx) Q fx fx) fx fx e I):gE P c nt (.seq x y) Q fx fx e I:=(by grind[JV])
theorem AD {id:Nat} {b:Code} (h:gE P c nt b (qB id Q fx) fx fx e I):gE P c nt (.block id b) Q fx fx e I:=by
 intro a w L J hs
 refine wp_block (wp_mono (h a w L J hs) λex a' w' q=> ?_)
 cases ex with
 |exit aa=>
  obtain⟨e',I',L',J',ab,hq⟩:=q
  change (if aa=id then Q .normal e' I' else Q (.exit aa) e' I')at hq
  change (if aa=id then fu c nt Q .normal a' w' else fu c nt Q (.exit aa) a' w')
  split
  .rename_i hid
   rw[aiv hid]at hq
   exact⟨e',I',L',J',ab,hq⟩
  .rename_i hid
   rw[aiu hid]at hq
   exact⟨e',I',L',J',ab,hq⟩
 |normal=>exact q
 |goto l=>exact q
 |ret=>exact q
 |panic ch=>exact q
 |outgrown=>exact q
theorem JW {b:Bool} {x:Operand} {t f:Code} (hx:zG e x= .bool b) (ht:b=true->gE P c nt t Q fx fx e I) (hf:b=false->gE P c nt f Q fx fx e I):gE P c nt (.cond x t f) Q fx fx e I:=by
 intro a w L J hs
 have hv:=hs.eval x
 rw[hx]at hv
 exact wp_cond_split (pO hv) (λh=>ht h a w L J hs) (λh=>hf h a w L J hs)
theorem Zg {s:St} (hn:c.cv.length=n0) (hc:c.β0.length=c.cv.length) (hk:At n0 keep vs s e I) (hy:gE P c nt y Q fx fx (nu (keep.zip vs)) s):gE P c nt y Q fx fx e I:=by
 intro a w L J hs
 subst hn
 obtain⟨pick,hp,aa⟩:=hk
 obtain⟨gY,s',J',⟨rfl,rfl⟩,_,ab⟩:=Mx (Inv:=λgY s' _=>gY=vs/\s'=s) (m:=0) hs hc ⟨vs,s,pick,hp,aa,rfl,rfl⟩
 exact hy a w L J' ab
theorem ov {S:Type} (keep:aj0) (aa:S->List V) (ab:S->St) (uU:S->Prop) (hn:c.cv.length=n0) (hc:c.β0.length=c.cv.length)
  (hx:gE P c nt x (y6 (λe' I'=>Next (λs=>uU s/\At n0 keep (aa s) (ab s) e' I') fx) Q fx fx) fx fx e I)
  (hy: ∀s,uU s->gE P c nt y Q fx fx (nu (keep.zip (aa s))) (ab s)):gE P c nt (.seq x y) Q fx fx e I:=
 JV hx λ_ _ ⟨s,hI,ad⟩=>(by grind[Zg])
theorem zH {body:Code} {S:Type} (keep:aj0) (aa:S->List V) (ad:S->St) (ab:S->Nat) (uU:S->Prop) (hn:c.cv.length=n0) (hc:c.β0.length=c.cv.length)
  (s0:S) (hI:uU s0) (h0:At n0 keep (aa s0) (ad s0) e I)
  (hr: ∀s,uU s->gE P c nt body (y6 (λe' I'=>Next (λs'=>ab s'<ab s/\uU s'/\At n0 keep (aa s') (ad s') e' I') fx) Q fx fx) fx fx (nu (keep.zip (aa s))) (ad s)):gE P c nt (.loop body) Q fx fx e I:=by
 subst hn
 intro a w L J hs
 refine QV (λm a w=> ∃s L J,m=ab s/\uU s/\dQ c nt (nu (keep.zip (aa s))) (ad s) a w L J) (ab s0) ?_ ?_
 .obtain⟨pick,hp,ae⟩:=h0
  obtain⟨gY,s',J',⟨rfl,rfl⟩,_,af⟩:=Mx (Inv:=λgY s' _=>gY=aa s0/\s'=ad s0) (m:=0) hs hc ⟨_,_,pick,hp,ae,rfl,rfl⟩
  grind
 .rintro m a w ⟨s,L,J,rfl,ah,hs⟩
  refine wp_mono (hr s ah a w L J hs) λx a' w' q=> ?_
  cases x with
  |normal=>
   obtain⟨e',I',L',J',af,s',ai,aj,pick,hp,ae⟩:=q
   obtain⟨gY,s2,J2,⟨rfl,rfl⟩,_,ak⟩:=Mx (Inv:=λgY s2 _=>gY=aa s'/\s2=ad s') (m:=0) af hc ⟨_,_,pick,hp,ae,rfl,rfl⟩
   exact⟨ab s',ai,s',L',J2,rfl,aj,ak⟩
  |exit id=>exact q
  |goto l=>exact q
  |ret=>exact q
  |panic ch=>exact q
  |outgrown=>exact q
theorem zP {ρ:Nat->Nat} {l m:List V} (h:l=m) (hn:l.all gK):bP (cT ρ) l m:=by grind[yG]
theorem rS {n N:Nat}: ∀{l:List V},l.all (iJ n)=true->bP (cT (cK (List.range n) N)) l l
 | [],_=>trivial
 |v::l,h=>by
  simp only[Bl,Ab]at h
  exact⟨xQ h.1,rS h.2⟩
theorem zD {n N:Nat} {l m:List V} (h:l=m) (hn:l.all (iJ n)):bP (cT (cK (List.range n) N)) l m:=by grind[rS]
theorem gZ {Q4:Nat} (hN:I.length=Q4) (h:bP (cT (cK [] Q4)) vs (keep.map e)):At 0 keep vs [] e I:=by
 subst hN
 exact⟨[],⟨rfl,C0,sm,om⟩,h⟩
theorem cc (k:Nat) {s:St} (hs:I.take k=s) (hk:s.length=k) (cQ:s.all (bS k)) (hn:n0<=k) (h:bP (cT (cK (List.range k) I.length)) vs (keep.map e)):At n0 keep vs s e I:=by
 subst hs
 have h1:I.take k++I.drop k=I:=sm
 have hp:=QY (n0:=n0) (s:=I.take k) (loc:=I.drop k) (by rw[hk];exact cQ) (by rw[hk];exact hn)
 rw[h1,hk]at hp
 exact⟨_,hp,h⟩
theorem DF (pick:aj0) {s:St} (ab:pick.Nodup) (hn:n0=0) (aa:bP (λo j=>I[j]? =some (yA (cK pick I.length) o)) s pick) (h:bP (cT (cK pick I.length)) vs (keep.map e)):At n0 keep vs s e I:=by
 subst hn
 refine⟨pick,⟨aa.length,ab,λi j o hi ho=> ?_,om⟩,h⟩
 obtain⟨j',ad,hr⟩:=aa.get i o ho
 grind
theorem bN.iv {nt:Nat} {args:List V} {R:V->St->Prop} (n0:Nat) (hf:P.funcs[f]? =some fn) (aa:fn.ntmps=nt) (ab:fn.results=rs.toArray) (hb:fn.body=some code) (h0:I.length=n0) (ad:args.length<=nt)
  (h: ∀c:Ctx,c.cv.length=n0->c.β0.length=c.cv.length->gE P c nt code (mm P rs n0 R) fx fx (ka 0 args) I):bN P f args I R:=bN.oP n0 hf aa ab hb h0 ad h
theorem uH (t:Nat) (hn:nt<=100000) (hy:gE P c nt y Q fx fx (fo e (100000+t) (.cy [])) I):gE P c nt y Q fx fx e I:=by
 intro a w L J hs
 refine hy a w L J ⟨hs.mem,hs.size,hs.defs,λk=> ?_⟩
 simp only[fo]
 split
 .rename_i hk
  subst hk
  refine⟨[], ?_,tV⟩
  have: ¬(100000+t<a.tmps.size):=by rw[hs.size];omega
  simp[Array.getD,this,undef]
 .exact hs.env k
theorem FO (id s:Nat) (rows:List (List V)) (cJ:I[id]? =some (.cj rows s)) (hp:xI rows) (hy:gE P c nt y Q fx fx (λt=>gk id rows (e t)) (jM id rows I)):gE P c nt y Q fx fx e I:=by
 intro a w L J hs
 obtain⟨h1,h2,h3,h4⟩:=QK hs.mem cJ hp
 exact hy a w _ J ⟨h1,hs.size,hs.defs,λt=>h4 _ _ (hs.env t)⟩
theorem Q5 {args ab:List V} {v:V} {I1:St} (hc:Pure P f cd v) (hb:xE P f) (hf:ot (args++bY) I ab I1)
  (aa:bP (cT (cK [] I1.length)) cd ab) (ad:GZ v) (hk:KV v I):jm P c (.fn f bY) args I KV fx:=
 VC.view hc hb hf aa (by grind) (by grind)
attribute [go_sem] gk gj gr fX nq jM
attribute [go_sem] Dz List.zip_nil_left List.zip_nil_right
theorem iV {nt:Nat} {args:List V} {R:V->St->Prop} (n0:Nat) (hf:P.funcs[f]? =some fn) (aa:fn.ntmps=nt) (ab:fn.results=rs.toArray)
  (h: ∀c:Ctx,c.cv.length=n0->c.β0.length=c.cv.length->gE P c nt code (mm P rs n0 R) fx fx (ka 0 args) I) (hb:fn.body=some code:=by rfl) (h0:I.length=n0:=by rfl) (ad:args.length<=nt:=by exact C4 rfl):bN P f args I R:=(by simp_all[bN.iv])
theorem iW {nt:Nat} {args:List V} {R:V->St->Prop} (n0:Nat) (hf:P.funcs[f]? =some fn) (aa:fn.ntmps=nt) (ab:fn.results=rs.toArray)
  (h: ∀c:Ctx,c.cv.length=n0->c.β0.length=c.cv.length->qu P c nt code (mm P rs n0 R) (ka 0 args) I) (hb:fn.body=some code:=by rfl) (h0:I.length=n0:=by rfl) (ad:args.length<=nt:=by exact C4 rfl):bN P f args I R:=(by simp_all[bN.intro])
theorem aN (k:Nat) {s:St} (cQ:s.all (bS k)) (hs:I.take k=s:=by simp[go_sem]) (hk:s.length=k:=by rfl) (hn:n0<=k:=by omega) (h:vs=keep.map e:=by simp[go_sem]) (hv:vs.all (iJ k)=true:=by rfl):At n0 keep vs s e I:=(by grind[cc,zD])
theorem aM (k:Nat) {s:St} (cQ:s.all (bS k)) (h:bP (cT (cK (List.range k) I.length)) vs (keep.map e)) (hs:I.take k=s:=by simp[go_sem]) (hk:s.length=k:=by rfl) (hn:n0<=k:=by omega):At n0 keep vs s e I:=(by grind[cc])
theorem aO (h:vs=keep.map e:=by simp[go_sem]) (hv:vs.all gK=true:=by rfl):At 0 keep vs [] e I:=gZ rfl (zP h hv)
theorem pC {args:List V} {v:V} (hc:Pure P f cd v) (hk:KV v I) (aa:bP (cT (cK [] I.length)) cd (args++bY):=by first|exact yG rfl|exact⟨zK,yG rfl⟩|exact⟨zK,zK,yG rfl⟩|exact⟨zC rfl,zK,yG rfl⟩|exact⟨zK,zK,zK,yG rfl⟩|exact⟨zK,zC rfl,zK,yG rfl⟩|exact⟨zC rfl,zK,zK,yG rfl⟩|exact⟨zC rfl,zC rfl,zK,yG rfl⟩|exact⟨zK,zK,zK,zK,yG rfl⟩|exact⟨zK,zK,zC rfl,zK,yG rfl⟩|exact⟨zK,zC rfl,zK,zK,yG rfl⟩|exact⟨zK,zC rfl,zC rfl,zK,yG rfl⟩|exact⟨zC rfl,zK,zK,zK,yG rfl⟩|exact⟨zC rfl,zK,zC rfl,zK,yG rfl⟩|exact⟨zC rfl,zC rfl,zK,zK,yG rfl⟩|exact⟨zC rfl,zC rfl,zC rfl,zK,yG rfl⟩)
  (hb:xE P f=true:=by kernel_rfl) (hn:gK v=true:=by rfl):jm P c (.fn f bY) args I KV fx:=(by grind[zL])
theorem pD {n0:Kp} {args:List V} {v:V} (hc:Pure P f cd v) (hk:KV v I) (aa: ∀N,bP (cT (cK [] N)) cd (args++bY):=by first|exact λ_=>yG rfl|exact λ_=>⟨zK,yG rfl⟩|exact λ_=>⟨zK,zK,yG rfl⟩|exact λ_=>⟨zC rfl,zK,yG rfl⟩|exact λ_=>⟨zK,zK,zK,yG rfl⟩|exact λ_=>⟨zK,zC rfl,zK,yG rfl⟩|exact λ_=>⟨zC rfl,zK,zK,yG rfl⟩|exact λ_=>⟨zC rfl,zC rfl,zK,yG rfl⟩|exact λ_=>⟨zK,zK,zK,zK,yG rfl⟩|exact λ_=>⟨zK,zK,zC rfl,zK,yG rfl⟩|exact λ_=>⟨zK,zC rfl,zK,zK,yG rfl⟩|exact λ_=>⟨zK,zC rfl,zC rfl,zK,yG rfl⟩|exact λ_=>⟨zC rfl,zK,zK,zK,yG rfl⟩|exact λ_=>⟨zC rfl,zK,zC rfl,zK,yG rfl⟩|exact λ_=>⟨zC rfl,zC rfl,zK,zK,yG rfl⟩|exact λ_=>⟨zC rfl,zC rfl,zC rfl,zK,yG rfl⟩)
  (hb:xE P f=true:=by kernel_rfl) (hn:gK v=true:=by rfl):pQ P c n0 0 (.fn f bY) args I KV fx:=(by grind[wZ])
theorem wR {R:V->St->Prop} {v r:V} (hr:cT (cK [] I.length) r v:=by exact zC rfl) (hR:R r []:=by exact⟨rfl,rfl⟩):cx (some v) 0 R I:=zW hr hR
end
end Go.Vx
