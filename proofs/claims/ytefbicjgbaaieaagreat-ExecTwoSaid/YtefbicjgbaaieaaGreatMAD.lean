/-
  Walks with cuts: a statement's end held by the slots that are read later, what follows proved once.
  No condition: a library text; nothing of the program is named.
-/
import Derived.Test.YtefbicjgbaaieaaGreatMAC
import Derived.Orders
set_option maxHeartbeats 8000000
namespace Go.Vx
open Go
section
variable {P:Program} {c:Ctx} {nt:Nat} {e:Env} {U:St} {a:Act} {w:World} {L:Nat->Nat} {I:afG}
variable {fn:Func}{code:Code}
def jH:Nat->List V->Env
 |_,[]=>jC
 |i,v::vs=>dK (jH (i+1) vs) i v
theorem KP: ∀(vs:List V) (i t:Nat),jH i vs (i+t)=vs.getD t .u
 | [],_,_=>by rfl
 |v::vs,i,0=>by simp[jH,dK]
 |v::vs,i,t+1=>by
  simp only[jH,dK]
  rw[afa om]
  have:=KP vs (i+1) t
  grind
def DC (P:Program) (e:Env) (U:St):ResultVar->Option V
 | .tmp t=>some (e t)
 | .cell t T=>(match my P T U (e t)with| .ok v=>some v|_=>none)
def zo (P:Program) (e:Env) (U:St):List ResultVar->Option (List V)
 | []=>some []
 |r::rs=>(match DC P e U r,zo P e U rs with|some v,some vs=>if mq v=true then some (v::vs)else none|_,_=>none)
def lA (P:Program) (rs:List ResultVar) (e:Env) (U:St):Option V:=
 match rs with
 | [r]=>DC P e U r
 |rs=>(zo P e U rs).map .cm
def rp (a:Act):ResultVar->Sem Value
 | .tmp t=>pure (a.tmps.getD t undef)
 | .cell t T=>do loadVar T (<-asAddr (a.tmps.getD t undef))
theorem Wt (fn:Func) (a:Act):results fn a.tmps=(do let vs<-fn.results.mapM (rp a);pure (if h:vs.size=1 then vs[0]else .tuple vs)):=by
 rfl
theorem Pm (h:dp c nt e U a w L I) {r:ResultVar} {v:V} (hv:DC P e U r=some v):
  ∃x,(rp a r).run P w= .ok x w/\cV w L U I v x:=by
 cases r with
 |tmp t=>
  simp only[DC,afg]at hv
  subst hv
  exact⟨_,rfl,h.env t⟩
 |cell t T=>
  simp only[DC]at hv
  split at hv
  .rename_i v' hl
   simp only[afg]at hv
   subst hv
   obtain⟨bl,off,z,hy,hz,r⟩:=OH (P:=P) T h.mem (h.env t) hl
   grind[rp,asAddr]
  grind
theorem Pn (h:dp c nt e U a w L I): ∀(rs:List ResultVar) (vs:List V),zo P e U rs=some vs->
  ∃xs:afG,(rs.mapM (rp a)).run P w= .ok xs w/\bL (dF w L U I) vs xs/\xs.length=rs.length
 | [],vs,hv=>by
  simp only[zo,afg]at hv
  subst hv
  exact⟨[],rfl,tV,rfl⟩
 |r::rs,vs,hv=>by
  simp only[zo]at hv
  split at hv
  .rename_i v gp h1 h2
   split at hv
   .rename_i hh
    simp only[afg]at hv
    subst hv
    obtain⟨x,hx,hr⟩:=Pm (P:=P) h h1
    obtain⟨xs,aa,ab,hl⟩:=Pn h rs gp h2
    refine⟨x::xs, ?_,⟨CV hr hh,ab⟩,by simp[hl]⟩
    rw[List.mapM_cons]
    simp only[Sem.run_bind,hx,Result.andThen_ok,aa,Sem.run_pure]
   .cases hv
  .cases hv
theorem Wu (h:dp c nt e U a w L I) {v:V} (hv:lA P fn.results.toList e U=some v): ∃x,(results fn a.tmps).run P w= .ok x w/\cV w L U I v x:=by
 have ab: ∀xs:afG,(fn.results.toList.mapM (rp a)).run P w= .ok xs w->
   (results fn a.tmps).run P w= .ok (if hs:xs.toArray.size=1 then xs.toArray[0]else .tuple xs.toArray) w:=by
  grind[Wt,Array.mapM_eq_mapM_toList,Sem.run_bind,Sem.run_map,Result.andThen_ok,Sem.run_pure]
 unfold lA at hv
 split at hv
 .rename_i r hr
  obtain⟨x,hx,ad⟩:=Pm (P:=P) h hv
  simp_all
 .rename_i rs ae
  cases ha:zo P e U fn.results.toList with
  |none=>grind
  |some vs=>
   rw[ha]at hv
   simp only[Ba,afg]at hv
   subst hv
   obtain⟨xs,af,aa,hl⟩:=Pn (P:=P) h _ _ ha
   refine⟨.tuple xs.toArray, ?_,xs,rfl,aa⟩
   have hn: ¬xs.toArray.size=1:=by
    intro q
    simp only[List.size_toArray]at q
    rw[hl]at q
    obtain⟨r,hr⟩:=List.length_eq_one_iff.1 q
    grind
   grind
def pn (n0:Nat) (R:V->St->Prop) (v:V) (U:St):Prop:=
 ∃v1 U1 pick U' r,nh [v] U [v1] U1/\eM n0 pick U1 U'/\cF (cz pick U1.length) r v1/\R r U'
def lB (P:Program) (rs:List ResultVar) (n0:Nat) (R:V->St->Prop):Exit->Env->St->Prop
 | .normal,e,U| .ret,e,U=> ∃v,lA P rs e U=some v/\pn n0 R v U
 |_,_,_=>False
theorem bK.nI {f:FuncId} {nt:Nat} {rs:List ResultVar} {args:List V} {U:St} {R:V->St->Prop} (n0:Nat) (hf:P.funcs[f]? =some fn) (af:fn.ntmps=nt) (ad:fn.results=rs.toArray) (hb:fn.body=some code) (h0:U.length=n0) (al:args.length<=nt)
  (h: ∀c:Ctx,c.bT.length=n0->c.β0.length=c.bT.length->VW P c nt code (lB P rs n0 R) (jH 0 args) U):bK P f args U R:=by
 subst af
 subst h0
 have ad:fn.results.toList=rs:=by rw[ad]
 subst ad
 intro w L I aa hm ha
 have hlen:=ha.length
 refine calls_of_wp hf hb ?_
 have ae:dp (entry w L U I) fn.ntmps (jH 0 args) U {tmps:=aa.toArray++Array.replicate (fn.ntmps - aa.toArray.size) undef,defers:= []} w L I:=by
  refine⟨hm,by grind,rfl,λt=> ?_⟩
  have e1:=KP args 0 t
  rw[A7]at e1
  rw[e1]
  by_cases ht:t<args.length
  .obtain⟨x,hx,r⟩:=ha.get t _ (A0 ht)
   have:(aa.toArray++Array.replicate (fn.ntmps - aa.toArray.size) undef).getD t undef=x:=by
    rw[Array.getD_eq_getD_getElem?,Df (by grind)]
    grind
   grind
  .rw[A9,Dc om]
   trivial
 refine wp_mono (h (entry w L U I) rfl hm.len _ w L I ae) λx a' w' q=> ?_
 have fin: ∀{x:Exit},(x= .normal\/x= .ret)->dH (entry w L U I) fn.ntmps (lB P fn.results.toList U.length R) x a' w'->
   a'.defers= []/\ ∃v,(results fn a'.tmps).run P w'= .ok v w'/\ ∃v' r L' U' I',Ending.returned v=Ending.returned v'/\R r U'/\U.length<=U'.length/\Mem (entry w L U I) w' L' U' I'/\cV w' L' U' I' r v':=by
  intro x hx q
  have hq: ∃e' U' L' I',dp (entry w L U I) fn.ntmps e' U' a' w' L' I'/\ ∃v,lA P fn.results.toList e' U'=some v/\pn U.length R v U':=by
   rcases hx with rfl|rfl<;>exact q
  obtain⟨e',bT,an,I1,hs,v,hv,v1,U1,pick,U',r,ag,hp,ah,hR⟩:=hq
  obtain⟨x,hx,ak⟩:=Wu (P:=P) hs hv
  obtain⟨L',I2,ab,_,_,ai,_⟩:=ag.ok hs.mem (xs:= [x]) (by trivial)
  refine⟨hs.defs,x,hx,x,r,L',U',_,rfl,hR, ?_,ab.pick hp hm.len,vY (hp.iH ab.len) ah ai⟩
  rw[hp.len]
  rcases Bo pick.length U.length with aj|ao
  .have:=(A1.1 (hp.id pick.length aj)).1
   omega
  omega
 cases x with
 |normal=>exact fin (.inl rfl) q
 |ret=>exact fin (.inr rfl) q
 |exit id=>obtain⟨e',U',L',I',hs,hq⟩:=q;simpa
 |goto l=>simpa
 |panic ch=>trivial
 |outgrown=>trivial
theorem bK.intro {f:FuncId} {nt:Nat} {rs:List ResultVar} {args:List V} {U:St} {R:V->St->Prop} (n0:Nat) (hf:P.funcs[f]? =some fn) (aa:fn.ntmps=nt) (ab:fn.results=rs.toArray) (hb:fn.body=some code) (h0:U.length=n0) (ad:args.length<=nt)
  (h: ∀c:Ctx,c.bT.length=n0->c.β0.length=c.bT.length->pj P c nt code (lB P rs n0 R) (jH 0 args) U):bK P f args U R:=
 bK.nI n0 hf aa ab hb h0 ad (by grind[qh])
theorem Po {Q:Exit->Act->World->Prop} (uI:Nat->Act->World->Prop) (n:Nat) (zp:uI n a w)
  (round: ∀n a w,uI n a w->code.wp P (Exit.then (λa' w'=> ∃m,m<n/\uI m a' w') Q) a w):(Code.loop code).wp P Q a w:=by
 intro b k cs
 have key: ∀n a w,uI n a w-> ∃e a' w',Q e a' w'/\Arrives P (lone (b.at a (.code code:: .inLoop code::k)) cs w) b k cs e a' w':=by
  intro n
  induction n using Nat.strongRecOn with
  |_ n ih=>
   intro a w hI
   obtain⟨e,po,pq,hq,aa⟩:=round n a w hI b (.inLoop code::k) cs
   cases e with
   |normal=>
    obtain⟨m,ad,ae⟩:=hq
    obtain⟨KQ,KR,KS,af,ab⟩:=ih m ad po pq ae
    exact⟨KQ,KR,KS,af,.of_steps (Steps.trans aa (.one step_inLoop)) ab⟩
   |exit id=>exact⟨_,po,pq,hq,(by simpa)⟩
   |goto l=>exact⟨_,po,pq,hq,(by simpa)⟩
   |ret=>exact⟨_,po,pq,hq,(by simpa)⟩
   |panic ch=>exact⟨_,po,pq,hq,(by simpa)⟩
   |outgrown=>exact⟨_,po,pq,hq,(by simpa)⟩
 obtain⟨e,a',w',hq,aa⟩:=key n a w zp
 exact⟨e,a',w',hq,.of_steps (.one step_loop) aa⟩
def kM:List (Nat×V)->Env
 | []=>jC
 |(t,v)::r=>dK (kM r) t v
def Wv (n0:Nat) (keep:afF) (Inv:List V->St->Nat->Prop) (m:Nat) (e:Env) (U:St):Prop:=
 ∃vs s pick,eM n0 pick U s/\bL (cF (cz pick U.length)) vs (keep.map e)/\Inv vs s m
theorem HT (h:dp c nt e U a w L I) (hc:c.β0.length=c.bT.length) {keep:afF} {Inv:List V->St->Nat->Prop} {m:Nat} (hk:Wv c.bT.length keep Inv m e U):
  ∃vs s I',Inv vs s m/\vs.length=keep.length/\dp c nt (kM (keep.zip vs)) s a w L I':=by
 obtain⟨vs,s,pick,hp,aa,hI⟩:=hk
 have hl:=aa.length
 simp at hl
 refine⟨vs,s,_,hI,hl,h.mem.pick hp hc,h.size,h.defs,λt=> ?_⟩
 have hb:=hp.iH h.mem.len
 clear hI
 revert aa hl
 generalize keep=kl
 intro aa hl
 induction kl generalizing vs with
 |nil=>trivial
 |cons q kl ih=>cases vs with
  |nil=>grind
  |cons v vs=>
   simp only[Dr,kM,dK]
   by_cases hq:t=q
   .subst hq
    rw[afb rfl]
    exact vY hb aa.1 (h.env t)
   .rw[afa hq]
    exact ih vs aa.2 (by grind)
end
def Fx.{v} {J:Sort v} (_:J):Type:=Unit
def fx.{v} {J:Sort v} {a:J}:Fx a:=()
abbrev KT:=Env->St->Prop
abbrev QT:=Exit->Env->St->Prop
def ni (P:Program) (c:Ctx) (nt:Nat) (code:Code) (Q:QT) (_:Fx code) (_:Fx Q) (e:Env) (U:St):Prop:=pj P c nt code Q e U
def lC (P:Program) (c:Ctx) (nt:Nat) (ops l:List Oper) (K:KT) (_:Fx ops) (_:Fx l) (_:Fx K) (e:Env) (U:St):Prop:=jG P c nt ops l K e U
def dU (P:Program) (c:Ctx) (nt:Nat) (d:Option Tmp) (op:Op) (K:KT) (_:Fx op) (_:Fx K) (e:Env) (U:St):Prop:=ik P c nt d op K e U
def dC (nt:Nat) (d:Option Tmp) (r:R) (K:KT) (_:Fx K) (e:Env) (U:St):Prop:=ly nt d r K e U
def il (nt:Nat) (d:Option Tmp) (v:V) (K:KT) (_:Fx K) (e:Env) (U:St):Prop:=eC nt d v K e U
def ru (p q:Prop) (_:Fx q):Prop:=HQ p q
def DD (x:V) (A B:Prop) (_:Fx A) (_:Fx B):Prop:=FE x A B
def j4 (x:V) (want:Bool) (A B:Prop) (_:Fx A) (_:Fx B):Prop:=jZ x want A B
def zq (t:Option Tmp) (want:Bool) (e:Env) (A B:Prop) (_:Fx A) (_:Fx B):Prop:=match t with|some t=>jZ (e t) want A B|none=>False
def rv (ops:List Oper) (_:Fx ops) (j:Nat):Option Tmp:=jF ops j
def v7 (K:KT) (Q:QT) (_:Fx K) (_:Fx Q) (x:Exit) (e:Env) (U:St):Prop:=KO K Q x e U
def pt (id:Nat) (Q:QT) (_:Fx Q) (x:Exit) (e:Env) (U:St):Prop:=zn id Q x e U
def fw (P:Program) (c:Ctx) (nt:Nat) (code:Code) (Q:QT) (_:Fx code) (_:Fx Q) (e:Env) (U:St):Prop:=VW P c nt code Q e U
def iZ (P:Program) (c:Ctx) (fv:V) (az:List V) (U:St) (K:V->St->Prop) (_:Fx K):Prop:=VC P c fv az U K
def KU (nt:Nat) (d:Option Tmp) (K:KT) (_:Fx K) (e:Env) (v:V) (U:St):Prop:=eC nt d v K e U
section
variable {P:Program} {c:Ctx} {nt:Nat} {e:Env} {U:St} {K:KT} {Q:QT} {d:Option Tmp}
variable {x:Operand}{t:TypeId}{i:Nat}{A:Prop}{B:Prop}{op:BinOp}{b:Bool}{es:Option (List Pk)}{y:Operand}{l:List Operand}{want:Bool}{t':TypeId}{k:IntKind}{f:FuncId}{ops:List Oper}{ty:TypeId}{dG:Array Edge}{n:Int}{p:Prop}{ts:Array TypeId}{ek:Nat}
theorem zL {code:Code} (h:ni P c nt code Q fx fx e U):pj P c nt code Q e U:=h
@[go_sem] theorem zr:ni P c nt .skip Q fx fx e U=Q .normal e U:=id rfl
@[go_sem] theorem DE {x y:Code}:ni P c nt (.seq x y) Q fx fx e U=ni P c nt x (v7 (ni P c nt y Q fx fx) Q fx fx) fx fx e U:=id rfl
@[go_sem] theorem zt {t f:Code}:ni P c nt (.cond x t f) Q fx fx e U=DD (zF e x) (ni P c nt t Q fx fx e U) (ni P c nt f Q fx fx e U) fx fx:=id rfl
@[go_sem] theorem v8 {b:Code}:ni P c nt (.block i b) Q fx fx e U=ni P c nt b (pt i Q fx) fx fx e U:=id rfl
@[go_sem] theorem zu:ni P c nt (.exit i) Q fx fx e U=Q (.exit i) e U:=id rfl
@[go_sem] theorem DF:ni P c nt .ret Q fx fx e U=Q .ret e U:=id rfl
@[go_sem] theorem uk {l:List Oper}:ni P c nt (.region i l.toArray false) Q fx fx e U=lC P c nt l l (Q .normal) fx fx fx e U:=id rfl
@[go_sem] theorem zw {ops:Array Oper}:ni P c nt (.region i ops true) Q fx fx e U=fw P c nt (.region i ops true) Q fx fx e U:=id rfl
@[go_sem] theorem zx {b:Code}:ni P c nt (.loop b) Q fx fx e U=fw P c nt (.loop b) Q fx fx e U:=id rfl
@[go_sem] theorem um:v7 K Q fx fx .normal e U=K e U:=id rfl
@[go_sem] theorem DG:v7 K Q fx fx .ret e U=Q .ret e U:=id rfl
@[go_sem] theorem zy:v7 K Q fx fx (.exit i) e U=Q (.exit i) e U:=id rfl
@[go_sem] theorem wa:pt i Q fx .normal e U=Q .normal e U:=id rfl
@[go_sem] theorem FF:pt i Q fx .ret e U=Q .ret e U:=id rfl
@[go_sem] theorem DH:pt i Q fx (.exit i) e U=Q .normal e U:=by show(if i=i then _ else _)=_;simp
@[go_sem] theorem DI {j:Nat}:pt i Q fx (.exit j) e U=if j=i then Q .normal e U else Q (.exit j) e U:=id rfl
theorem yY {op:Op} (h1:gE P e U op=bX P e U op) (h2:ik P c nt d op K e U=ly nt d (xB P d e U op) K e U):dU P c nt d op K fx fx e U=dC nt d (bX P e U op) K fx e U:=by
 grind[dU,dC,xB]
def wh (b:Bool) (x y:R):R:=if b=true then x else y
@[go_sem] theorem Ww {x y:R}:wh true x y=x:=rfl
@[go_sem] theorem Wx {x y:R}:wh false x y=y:=rfl
def KW:V->Bool
 | .cm []=>true
 |_=>false
@[go_sem] theorem wi {t:Nat}:wP e (some t)=KW (e (100000+t)):=by
 rfl
@[go_sem] theorem wj:wP e none=false:=rfl
@[go_sem] theorem FG:KW (.cm [])=true:=rfl
@[go_sem] theorem FH:KW .u=false:=rfl
@[go_sem] theorem KX {t:Nat}:jC t= .u:=rfl
@[go_sem] theorem FI:lC P c nt ops [] K fx fx fx e U=K e U:=id rfl
@[go_sem] theorem DJ {rest:List Oper} {op:Op} {pos:String}:lC P c nt ops (⟨d,op,ty,pos,dG,none⟩::rest) K fx fx fx e U=dU P c nt d op (lC P c nt ops rest K fx fx fx) fx fx e U:=id rfl
@[go_sem] theorem z6 {rest:List Oper} {op:Op} {pos:String} {j:Nat}:lC P c nt ops (⟨d,op,ty,pos,dG,some (j,want)⟩::rest) K fx fx fx e U=
  zq (rv ops fx j) want e (dU P c nt d op (lC P c nt ops rest K fx fx fx) fx fx e U) (il nt d (.cm []) (lC P c nt ops rest K fx fx fx) fx e U) fx fx:=id rfl
@[go_sem] theorem DK {t:Tmp}:zq (some t) want e A B fx fx=j4 (e t) want A B fx fx:=id rfl
@[go_sem] theorem DL {d:Option Tmp} {op:Op} {pos:String} {g:Option (Nat×Bool)} {l:List Oper}:rv (⟨d,op,ty,pos,dG,g⟩::l) fx 0=d:=id rfl
@[go_sem] theorem DM {o:Oper} {l:List Oper} {n:Nat}:rv (o::l) fx (n+1)=rv l fx n:=by rfl
@[go_sem] theorem HU:j4 (.bool true) true A B fx fx=A:=by grind[j4,jZ]
@[go_sem] theorem HV:j4 (.bool false) false A B fx fx=A:=by grind[j4,jZ]
@[go_sem] theorem HW:j4 (.bool true) false A B fx fx=B:=by grind[j4,jZ]
@[go_sem] theorem HX:j4 (.bool false) true A B fx fx=B:=by grind[j4,jZ]
@[go_sem] theorem HY:j4 (.cm []) want A B fx fx=B:=by rfl
@[go_sem] theorem HZ:DD (.bool true) A B fx fx=A:=by grind[DD,FE]
@[go_sem] theorem H0:DD (.bool false) A B fx fx=B:=by grind[DD,FE]
theorem zS (ha:b=true->A) (hb:b=false->B):DD (.bool b) A B fx fx:=⟨ha,hb⟩
theorem xD (ha:b=want->A) (hb:b=(!want)->B):j4 (.bool b) want A B fx fx:=⟨ha,λh=>hb (by cases b<;>cases want<;>simp_all)⟩
theorem zI {q:Prop} (hp:p) (hq:q):ru p q fx:=⟨hp,hq⟩
@[go_sem] theorem H2 {q:Prop}:ru True q fx=q:=by grind[ru,HQ]
@[go_sem] theorem H3 {v:V}:dC nt d (.ok v) K fx e U=il nt d v K fx e U:=id rfl
@[go_sem] theorem DN {v:V}:dC nt d (.dW p v) K fx e U=ru p (il nt d v K fx e U) fx:=id rfl
@[go_sem] theorem H4 {v:V} {s:St}:dC nt d (.st v s) K fx e U=il nt d v K fx e s:=id rfl
@[go_sem] theorem wm {v:V} {s:St}:dC nt d (.cE p v s) K fx e U=ru p (il nt d v K fx e s) fx:=id rfl
@[go_sem] theorem DO {t:Nat} {v:V}:il nt (some t) v K fx e U=(t<nt/\K (dK e t v) U):=id rfl
@[go_sem] theorem DP {v:V}:il nt none v K fx e U=K e U:=id rfl
@[go_sem] theorem FJ {v:V}:KU nt d K fx e v U=il nt d v K fx e U:=id rfl
@[go_sem] theorem FK:dU P c nt d (.move x) K fx fx e U=il nt d (zF e x) K fx e U:=(yY rfl rfl).trans rfl
@[go_sem] theorem z7:dU P c nt d (.assign x) K fx fx e U=il nt d (zF e x) K fx e U:=(yY rfl rfl).trans rfl
@[go_sem] theorem FL {z:Operand}:dU P c nt d (.pick x y z) K fx fx e U=dC nt d (vC (zF e x) (zF e y) (zF e z)) K fx e U:=(yY rfl rfl).trans rfl
@[go_sem] theorem DQ:dU P c nt d (.alloc t) K fx fx e U=dC nt d (pa P t U) K fx e U:=(yY rfl rfl).trans rfl
@[go_sem] theorem H5:dU P c nt d (.box t x) K fx fx e U=dC nt d (tX U (zF e x)) K fx e U:=(yY rfl rfl).trans rfl
@[go_sem] theorem DR {l:List (Nat×Operand)}:dU P c nt d (.build t l.toArray) K fx fx e U=dC nt d (vI (wW P t) (fr P t) (l.map λp=>(p.1,zF e p.2))) K fx e U:=(yY rfl rfl).trans rfl
@[go_sem] theorem rA {n:Nat} {l:List (Nat×Operand)}:dU P c nt d (.buildSlice t n l.toArray) K fx fx e U=dC nt d (wh (wP e d) (ug ((dQ P t).map (·.1)) n U (l.map λp=>(p.1,zF e p.2))) (ub ((dQ P t).map (·.1)) n (l.map λp=>(p.1,zF e p.2)))) K fx e U:=id rfl
@[go_sem] theorem FM:dU P c nt d (.load t x) K fx fx e U=dC nt d (my P t U (zF e x)) K fx e U:=(yY rfl rfl).trans rfl
@[go_sem] theorem DS:dU P c nt d (.store t x y) K fx fx e U=dC nt d (tW P t U (zF e x) (zF e y)) K fx e U:=(yY rfl rfl).trans rfl
@[go_sem] theorem H6:dU P c nt d (.nilCheck x) K fx fx e U=dC nt d (vD (zF e x)) K fx e U:=(yY rfl rfl).trans rfl
@[go_sem] theorem H7:dU P c nt d (.binOp op t x y t') K fx fx e U=dC nt d (wh (oI y) (tU op (jD P t) (zF e x)) (wh (p9 y) (vU op (mA P t) (zF e x)) (na op (jD P t) (mu P t) (zF e x) (zF e y)))) K fx e U:=(yY rfl rfl).trans rfl
@[go_sem] theorem wq {t:Nat}:oI (.tmp t)=false:=rfl
@[go_sem] theorem wu:oI (.const (.slice none 0 0))=true:=rfl
@[go_sem] theorem wv:oI (.const (.int k n))=false:=rfl
@[go_sem] theorem uo:oI (.const (.bool b))=false:=rfl
@[go_sem] theorem wx {b:ByteArray}:oI (.const (.string b))=false:=rfl
@[go_sem] theorem wy {a:Option Addr}:oI (.const (.pointer a))=false:=rfl
@[go_sem] theorem uq:oI (.func f)=false:=rfl
@[go_sem] theorem w7 {m:afK}:oI (.const (.map m))=false:=rfl
@[go_sem] theorem ur {t:Nat}:p9 (.tmp t)=false:=rfl
@[go_sem] theorem uu:p9 (.const (.map none))=true:=rfl
@[go_sem] theorem uv:p9 (.const (.int k n))=false:=rfl
@[go_sem] theorem sW:p9 (.const (.bool b))=false:=rfl
@[go_sem] theorem uw {b:ByteArray}:p9 (.const (.string b))=false:=rfl
@[go_sem] theorem ux {a:Option Addr}:p9 (.const (.pointer a))=false:=rfl
@[go_sem] theorem sX:p9 (.func f)=false:=rfl
def Pp (l:List (V×St)) (A:V->St->Prop) (_:Fx A):Prop:= ∀p∈l,A p.1 p.2
@[go_sem] theorem Wy {l:List (V×St)}:dC nt d (.any l) K fx e U=Pp l (λv s=>il nt d v K fx e s) fx:=id rfl
theorem Wz {l:List (V×St)} {A:V->St->Prop} (h: ∀p∈l,A p.1 p.2):Pp l A fx:=h
@[go_sem] theorem xa {r:Option Operand}:dU P c nt d (.makeMap t r) K fx fx e U=dC nt d (vR U (mA P t) (r.map (zF e))) K fx e U:=(yY rfl rfl).trans rfl
@[go_sem] theorem z8 {k:Operand} {ok:Bool}:dU P c nt d (.lookup t x k ok) K fx fx e U=dC nt d (xV (fP P t) U (zF e x) (zF e k) ok) K fx e U:=(yY rfl rfl).trans rfl
@[go_sem] theorem sY {k v:Operand}:dU P c nt d (.mapUpdate t x k v) K fx fx e U=dC nt d (xP (fP P t) U (zF e x) (zF e k) (zF e v)) K fx e U:=(yY rfl rfl).trans rfl
@[go_sem] theorem DT:dU P c nt d (.range t x) K fx fx e U=dC nt d (vV (mA P t) U (zF e x)) K fx e U:=(yY rfl rfl).trans rfl
@[go_sem] theorem FN:dU P c nt d (.next x false) K fx fx e U=dC nt d (wh (wP e d) (mB true U (zF e x)) (mB false U (zF e x))) K fx e U:=id rfl
@[go_sem] theorem AA {k:Operand}:dU P c nt d (.call ⟨.builtin .delete, #[x,k], #[t,t']⟩) K fx fx e U=dC nt d (vT (fP P t) U (zF e x) (zF e k)) K fx e U:=(yY rfl rfl).trans rfl
attribute [go_sem] Fo zg vR xV xP vV mB vT vU ma nf pf vS vW
@[go_sem] theorem KY {op:UnOp}:dU P c nt d (.unOp op t x) K fx fx e U=dC nt d (mw op (zF e x)) K fx e U:=(yY rfl rfl).trans rfl
@[go_sem] theorem FO:dU P c nt d (.convert t t' x) K fx fx e U=dC nt d (wh (wP e d) (vN (jd P t) (jd P t') U (zF e x)) (uc (jd P t) (jd P t') (zF e x))) K fx e U:=id rfl
@[go_sem] theorem DU {hi:Option Operand}:dU P c nt d (.slice t x none hi none) K fx fx e U=dC nt d (qV (gT P t) (de P t) ((dQ P t).map (·.1)) (zF e x) none (hi.map (zF e))) K fx e U:=(yY rfl rfl).trans rfl
@[go_sem] theorem AB {lo hi:Operand}:dU P c nt d (.slice t x (some lo) (some hi) none) K fx fx e U=dC nt d (qV (gT P t) (de P t) ((dQ P t).map (·.1)) (zF e x) (some (zF e lo)) (some (zF e hi))) K fx e U:=(yY rfl rfl).trans rfl
@[go_sem] theorem AD {lo:Operand}:dU P c nt d (.slice t x (some lo) none none) K fx fx e U=dC nt d (wh (wP e d) (vJ (de P t) ((dQ P t).map (·.1)) U (zF e x) (zF e lo)) (qV (gT P t) (de P t) ((dQ P t).map (·.1)) (zF e x) (some (zF e lo)) none)) K fx e U:=id rfl
@[go_sem] theorem sZ {f:Nat}:dU P c nt d (.fieldAddr t x f) K fx fx e U=dC nt d (vF P t (zF e x) f) K fx e U:=(yY rfl rfl).trans rfl
@[go_sem] theorem DV {f:Nat}:dU P c nt d (.field t x f) K fx fx e U=dC nt d (vL (cA P t f) (zF e x)) K fx e U:=(yY rfl rfl).trans rfl
@[go_sem] theorem xb {i:Operand}:dU P c nt d (.indexAddr t x i) K fx fx e U=dC nt d (tY (eL P t) (gT P t) (zF e x) (zF e i)) K fx e U:=(yY rfl rfl).trans rfl
@[go_sem] theorem H8 {i:Operand}:dU P c nt d (.index t x i) K fx fx e U=dC nt d (tZ (zF e x) (zF e i) (pb P t) (gT P t)) K fx e U:=(yY rfl rfl).trans rfl
@[go_sem] theorem xc:dU P c nt d (.extract x i) K fx fx e U=dC nt d (vE (zF e x) i) K fx e U:=(yY rfl rfl).trans rfl
@[go_sem] theorem FP {fn:Fn} {m:List Operand}:dU P c nt d (.makeFunc fn l.toArray m.toArray) K fx fx e U=dC nt d (vM fn l.length (m.map (zF e))) K fx e U:=(yY rfl rfl).trans rfl
@[go_sem] theorem FQ {l m:Operand}:dU P c nt d (.makeSlice t l m) K fx fx e U=dC nt d (wh (wP e d) (ue (dQ P t) (iG P t) U (zF e l) (zF e m)) (ud (dQ P t) (iG P t) U (zF e l) (zF e m))) K fx e U:=id rfl
@[go_sem] theorem H9:dU P c nt d (.call ⟨.builtin .len, #[x], #[t]⟩) K fx fx e U=dC nt d (vH (de P t) (zF e x)) K fx e U:=(yY rfl rfl).trans rfl
@[go_sem] theorem DW:dU P c nt d (.call ⟨.builtin .clear, #[x], #[t]⟩) K fx fx e U=dC nt d (uf ((dQ P t).map (·.1)) (iG P t) U (zF e x)) K fx e U:=(yY rfl rfl).trans rfl
@[go_sem] theorem AE:dU P c nt d (.call ⟨.builtin .append, #[x,y], #[t,t']⟩) K fx fx e U=dC nt d (wh (wP e d) (qT (dQ P t) (de P t') U (zF e x) (zF e y)) (yS (dQ P t) (de P t') U (zF e x) (zF e y))) K fx e U:=id rfl
@[go_sem] theorem Ia:dU P c nt d (.call ⟨.builtin .min,l.toArray,ts⟩) K fx fx e U=dC nt d (pc false (l.map (zF e))) K fx e U:=(yY rfl rfl).trans rfl
@[go_sem] theorem Ib:dU P c nt d (.call ⟨.builtin .max,l.toArray,ts⟩) K fx fx e U=dC nt d (pc true (l.map (zF e))) K fx e U:=(yY rfl rfl).trans rfl
@[go_sem] theorem FR {f:Operand}:dU P c nt d (.call ⟨.value f,l.toArray,ts⟩) K fx fx e U=iZ P c (zF e f) (l.map (zF e)) U (KU nt d K fx e) fx:=id rfl
@[go_sem] theorem DX {t:Nat}:zF e (.tmp t)=e t:=rfl
@[go_sem] theorem xe {v:Value}:zF e (.const v)=iC v:=rfl
@[go_sem] theorem AF {g:Nat}:zF e (.global g)=OD g:=rfl
@[go_sem] theorem AG:zF e (.func f)= .fn f []:=rfl
@[go_sem] theorem Ie {t':Nat} {v:V} {t:Nat}:dK e t' v t=if t=t' then v else e t:=rfl
@[go_sem] theorem AH:iC (.bool b)= .bool b:=rfl
@[go_sem] theorem DY:iC (.int k n)= .int k n:=rfl
@[go_sem] theorem DZ {s:ByteArray}:iC (.string s)= .str s.data.toList:=rfl
@[go_sem] theorem AI:iC (.pointer none)= .fq:=rfl
@[go_sem] theorem AJ:iC (.slice none 0 0)= .sl .full []:=rfl
attribute [go_sem] vJ tU Fl zf vC vD mw uc vN pc vH tX pa vE vL vF my p7 tW mq xG tZ tY qV vK nb yS qT ua pe OJ uf ub ug ue qU vI CT ud vM Fv o8 o9 p8 sQ jH kM
@[go_sem] theorem Ea {x y:Int}:na op ek es (.int k x) (.int k y)=zd op k x y:=by simp[na]
@[go_sem] theorem Eb {x y:afE}:na op ek es (.str x) (.str y)=ze op x y:=rfl
@[go_sem] theorem AK {x y:Bool}:na op 1 es (.bool x) (.bool y)=(match op with| .eql=> .ok (.bool (x==y))| .neq=> .ok (.bool (!(x==y)))|_=> .fail):=rfl
@[go_sem] theorem Ec {o:Nat}:na op 2 es (.ptr i o) .fq=(match op with| .eql=> .ok (.bool false)| .neq=> .ok (.bool true)|_=> .fail):=rfl
@[go_sem] theorem Ed:na op 2 es .fq .fq=(match op with| .eql=> .ok (.bool true)| .neq=> .ok (.bool false)|_=> .fail):=rfl
@[go_sem] theorem Ee {ks:List Pk} {az bs:List V}:na op ek (some ks) (.agg az) (.agg bs)=(match kJ ks az bs with|some r=>(match op with| .eql=> .ok (.bool r)| .neq=> .ok (.bool (!r))|_=> .fail)|none=> .fail):=rfl
attribute [go_sem] zd ze kJ je putCells
end
def nJ:V->Bool
 | .ptr _ _| .sl (.app _) _| .agg _| .cm _| .fn _ _| .cJ _ _ _ _ _| .iE _ _ _ _ _| .jB _ _ _ _| .mp _| .gy _ _=>false
 |_=>true
def j5:V->Bool
 | .fn _ bU=>bU.all nJ
 | .gy _ vs=>vs.all nJ
 |v=>nJ v
def uy:V->Bool
 | .agg cs=>cs.all j5
 |v=>j5 v
def gR:V->Bool
 | .cm vs=>vs.all uy
 |v=>uy v
def cG (n:Nat):V->Bool
 | .ptr id _=>decide (id<n)
 | .sl (.app id) _=>decide (id<n)
 | .cJ id _ _ _ _=>decide (id<n)
 | .iE id _ _ _ _=>decide (id<n)
 | .jB id _ _ _=>decide (id<n)
 | .mp id=>decide (id<n)
 | .agg _| .cm _| .fn _ _| .gy _ _=>false
 |_=>true
def cK (n:Nat):V->Bool
 | .fn _ bU=>bU.all (cG n)
 | .gy _ vs=>vs.all (cG n)
 |v=>cG n v
def j6 (n:Nat):V->Bool
 | .agg cs=>cs.all (cK n)
 |v=>cK n v
def fW (n:Nat):V->Bool
 | .cm vs=>vs.all (j6 n)
 |v=>j6 n v
def bP (n:Nat):Ob->Bool
 | .box cells=>cells.all (cK n)
 | .cc rows _=>rows.all λr=>r.all (cK n)
 | .mp di _ _=>di.all (j6 n)
 | .it m _ _ _=>(match m with|some id=>decide (id<n)|none=>true)
 |_=>true
theorem xU {J:Type} {f:J->J} {p:J->Bool} (h: ∀a,p a=true->f a=a): ∀{l:List J},l.all p=true->l.map f=l
 | [],_=>rfl
 |a::l,q=>by
  simp only[Aq,A6]at q
  rw[Ai,h a q.1,xU h q.2]
section
variable {ρ:Nat->Nat}
theorem Pq {v:V} (h:nJ v):du ρ v=v:=by
 cases v with
 |sl g rows=>cases g<;>first|rfl|simp[nJ]at h
 |_=>first|rfl|simp[nJ]at h
theorem xf {v:V} (h:j5 v):dv ρ v=v:=by
 cases v with
 |fn f bU=>simp only[dv];rw[xU (λ_=>Pq) h]
 |gy t v=>simp only[dv];rw[xU (λ_=>Pq) h]
 |sl g rows=>cases g<;>first|rfl|simp[j5,nJ]at h
 |_=>first|rfl|simp[j5,nJ]at h
theorem KZ {v:V} (h:uy v):dL ρ v=v:=by
 cases v with
 |agg cs=>simp only[dL];rw[xU (λ_=>xf) h]
 |fn f bU=>exact xf (v:= .fn f bU) h
 |gy t v=>exact xf (v:= .gy t v) h
 |sl g rows=>cases g<;>first|rfl|simp[uy,j5,nJ]at h
 |_=>first|rfl|simp[uy,j5,nJ]at h
theorem xg {v:V} (h:gR v):dy ρ v=v:=by
 cases v with
 |cm vs=>simp only[dy];rw[xU (λ_=>KZ) h]
 |agg cs=>exact KZ (v:= .agg cs) h
 |fn f bU=>exact xf (v:= .fn f bU) h
 |gy t v=>exact xf (v:= .gy t v) h
 |sl g rows=>cases g<;>first|rfl|simp[gR,uy,j5,nJ]at h
 |_=>first|rfl|simp[gR,uy,j5,nJ]at h
variable {n:Nat} (iJ: ∀i,i<n->ρ i=i)
include iJ
theorem xh {v:V} (h:cG n v):du ρ v=v:=by
 cases v with
 |sl g rows=>cases g with
  |app id=>simp_all[cG,du]
  |_=>rfl
 |ptr id off=>simp_all[cG,du]
 |cJ id s n lo m=>simp_all[cG,du]
 |iE id s n k j=>simp_all[cG,du]
 |jB id s off n=>simp_all[cG,du]
 |mp id=>simp_all[cG,du]
 |_=>first|rfl|simp[cG]at h
theorem mb {v:V} (h:cK n v):dv ρ v=v:=by
 cases v with
 |fn f bU=>simp only[dv];rw[xU (by grind[xh]) h]
 |gy t v=>simp only[dv];rw[xU (by grind[xh]) h]
 |sl g rows=>have:=xh iJ (v:= .sl g rows) h;simpa
 |ptr id off=>exact xh iJ (v:= .ptr id off) h
 |cJ id s' n' lo m=>exact xh iJ (v:= .cJ id s' n' lo m) h
 |iE id s' n' k j=>exact xh iJ (v:= .iE id s' n' k j) h
 |jB id s' off n'=>exact xh iJ (v:= .jB id s' off n') h
 |mp id=>exact xh iJ (v:= .mp id) h
 |_=>first|rfl|simp[cK,cG]at h
theorem Ig {v:V} (h:j6 n v):dL ρ v=v:=by
 cases v with
 |agg cs=>simp only[dL];rw[xU (by grind[mb]) h]
 |fn f bU=>exact mb iJ (v:= .fn f bU) h
 |gy t v=>exact mb iJ (v:= .gy t v) h
 |sl g rows=>have:=mb iJ (v:= .sl g rows) h;simpa
 |ptr id off=>exact mb iJ (v:= .ptr id off) h
 |cJ id s' n' lo m=>exact mb iJ (v:= .cJ id s' n' lo m) h
 |iE id s' n' k j=>exact mb iJ (v:= .iE id s' n' k j) h
 |jB id s' off n'=>exact mb iJ (v:= .jB id s' off n') h
 |mp id=>exact mb iJ (v:= .mp id) h
 |_=>first|rfl|simp[j6,cK,cG]at h
theorem Ih {v:V} (h:fW n v):dy ρ v=v:=by
 cases v with
 |cm vs=>simp only[dy];rw[xU (by grind[Ig]) h]
 |agg cs=>exact Ig iJ (v:= .agg cs) h
 |fn f bU=>exact mb iJ (v:= .fn f bU) h
 |gy t v=>exact mb iJ (v:= .gy t v) h
 |sl g rows=>have:=Ig iJ (v:= .sl g rows) h;simpa
 |ptr id off=>exact mb iJ (v:= .ptr id off) h
 |cJ id s' n' lo m=>exact mb iJ (v:= .cJ id s' n' lo m) h
 |iE id s' n' k j=>exact mb iJ (v:= .iE id s' n' k j) h
 |jB id s' off n'=>exact mb iJ (v:= .jB id s' off n') h
 |mp id=>exact mb iJ (v:= .mp id) h
 |_=>first|rfl|simp[fW,j6,cK,cG]at h
theorem xH {o:Ob} (h:bP n o):yF ρ o=o:=by
 cases o with
 |box cells=>simp only[yF];rw[xU (by grind[mb]) h]
 |cc rows s=>simp only[yF];rw[xU (by grind[xU,mb]) h]
 |mp di fN cD=>simp only[yF];rw[xU (by grind[Ig]) h]
 |it m since seen last=>
  cases m with
  |none=>rfl
  |some id=>simp_all[bP,yF]
 |_=>rfl
end
theorem wZ {n N i:Nat} (h:i<n):cz (List.range n) N i=i:=by
 grind[xX]
theorem Ps {n0:Nat} {s loc:St} (cH:s.all (bP s.length)) (hn:n0<=s.length):eM n0 (List.range s.length) (s++loc) s:=by
 refine⟨sm,Bm,λi j o hi ho=> ?_,λi hi=> ?_⟩
 .obtain⟨hl,hj⟩:=A1.1 hi
  simp at hj hl
  subst hj
  have:bP s.length o=true:=by
   grind
  grind[xH,wZ]
 grind
theorem zC {ρ:Nat->Nat} {v:V} (h:gR v):cF ρ v v:= .inl (xg h).symm
theorem zK {ρ:Nat->Nat} {g:Tag} {rows:List (List V)}:cF ρ (.sl .ro rows) (.sl g rows):= .inr sm
theorem s8 {n N:Nat} {v:V} (h:fW n v):cF (cz (List.range n) N) v v:= .inl (by grind[Ih,wZ])
theorem zZ {ρ:Nat->Nat}: ∀{l:List V},l.all gR=true->bL (cF ρ) l l
 | [],_=>trivial
 |v::l,h=>by
  simp only[Aq,A6]at h
  exact⟨zC h.1,zZ h.2⟩
section
variable {P:Program} {c:Ctx} {nt:Nat} {e:Env} {U:St} {K:KT} {Q:QT} {d:Option Tmp} {R:V->St->Prop} {rs:List ResultVar} {n0:Nat}
def cj (v:Option V) (n0:Nat) (R:V->St->Prop) (U:St):Prop:= ∃x,v=some x/\pn n0 R x U
@[go_sem] theorem FT:lB P rs n0 R .ret e U=cj (lA P rs e U) n0 R U:=id rfl
@[go_sem] theorem xi:lB P rs n0 R .normal e U=cj (lA P rs e U) n0 R U:=id rfl
attribute [go_sem] lA DC zo
theorem yL {v r:V} (hr:cF (cz [] U.length) r v) (hR:R r []):cj (some v) 0 R U:=
 ⟨v,rfl,v,U,[],[],r,.refl _ _,⟨rfl,Ca,sm,om⟩,hr,hR⟩
theorem rC (k:Nat) {v r:V} (hk:(U.take k).length=k) (cH:(U.take k).all (bP k)) (hn:n0<=k) (hr:cF (cz (List.range k) U.length) r v) (hR:R r (U.take k)):cj (some v) n0 R U:=by
 have h1:U.take k++U.drop k=U:=sm
 have hp:=Ps (n0:=n0) (s:=U.take k) (loc:=U.drop k) (by rw[hk];exact cH) (by rw[hk];exact hn)
 rw[h1,hk]at hp
 exact⟨v,rfl,v,U,_,U.take k,r,.refl _ _,hp,hr,hR⟩
theorem Pt (id s:Nat) (rows:List (List V)) {v:V} (cv:U[id]? =some (.cc rows s)) (hp:wF rows) (h:cj (some (fB id rows v)) n0 R (lj id rows U)):cj (some v) n0 R U:=by
 obtain⟨x,hx,v1,U1,pick,U',r,hf,hr⟩:=h
 cases hx
 exact⟨v,rfl,v1,U1,pick,U',r,.step id s rows cv hp hf,hr⟩
abbrev Pure (P:Program) (f:FuncId) (args:List V) (v:V):Prop:=bK P f args [] λr s=>r=v/\s= []
theorem zM {f:FuncId} {bU args bZ:List V} {v:V} {KV:V->St->Prop} (hc:Pure P f bZ v) (hb:wE P f) (aa:bL (cF (cz [] U.length)) bZ (args++bU)) (hn:gR v) (hk:KV v U):
  iZ P c (.fn f bU) args U KV fx:=by
 refine VC.of hc hb [] Ca rfl sm aa ?_
 rintro r U' ⟨rfl,rfl⟩ _
 grind[xg,xQ,fQ]
theorem WA {f:FuncId} {bU args bZ:List V} {o:Ob} {i:Nat} {KV:V->St->Prop} {R:V->St->Prop} (hc:bK P f bZ [o] R) (hb:wE P f) (ho:U[i]? =some o) (ab:bP 0 o)
  (aa:bL (cF (cz [i] U.length)) bZ (args++bU)) (hk: ∀r U',R r U'->1<=U'.length->KV (dy (cz [i] U.length) r) (xQ [i] U U')):iZ P c (.fn f bU) args U KV fx:=by
 refine VC.of hc hb [i] sm rfl (λk j o' h1 h2=> ?_) aa hk
 cases k with
 |zero=>
  simp at h1 h2
  subst h1;subst h2
  rw[xH (n:=0) om ab];exact ho
 |succ k=>grind
end
def lk:Op->Nat
 | .move _| .assign _| .pick .. | .build .. | .buildSlice .. | .nilCheck _| .binOp .. | .unOp .. | .convert .. | .slice .. | .fieldAddr .. | .field .. | .indexAddr .. | .index .. | .extract .. | .makeFunc .. =>0
 | .call ⟨.builtin .len,_,_⟩| .call ⟨.builtin .min,_,_⟩| .call ⟨.builtin .max,_,_⟩=>0
 | .load .. =>1
 | .alloc .. | .box .. =>3
 |_=>4
def zQ (q:List (Nat×Nat)) (i:Nat) (o:Oper):Nat:=match q.find? (·.1==i)with|some p=>min p.2 4|none=>lk o.op
structure Kp where
 x:Nat
 n:Nat
 ex:afF
 ob:Option (Nat×(Ob->R))
abbrev Kp.pre (n:Nat):Kp:=⟨0,n,[],none⟩
def Kp.has (k:Kp) (id:Nat):Bool:=decide (k.x<=id)&&decide (id<k.n)&& !k.ex.contains id
@[go_sem] theorem Kp.Ii {n id:Nat}:(Kp.mk 0 n [] none).has id=decide (id<n):=by simp[Kp.has]
@[go_sem] theorem Kp.Ij {x n id:Nat}:(Kp.mk (x+1) n [] none).has id=(decide (x+1<=id)&&decide (id<n)):=by simp[Kp.has]
def Kp.of (k:Kp) (U:St):St×Option R:=(((U.take k.n).mapIdx λi o=>if k.ex.contains i then .dead else o).drop k.x,k.ob.bind λp=>((U.take k.n)[p.1]?).map p.2)
theorem Kp.get {k:Kp} {id:Nat} {U S:St} (h:k.has id) (ht:k.of U=k.of S):U[id]? =S[id]? :=by
 simp only[Kp.has,A6,afe,Bt]at h
 obtain⟨⟨h1,h2⟩,h3⟩:=h
 have e: ∀τ:St,(k.of τ).1[id - k.x]? =τ[id]? :=(by simp_all[Kp.of])
 grind
theorem Kp.ji {k:Kp} {U ext:St} (h:k.n<=U.length):k.of (U++ext)=k.of U:=by
 grind[Kp.of]
theorem Kp.im {k:Kp} {U:St} {id:Nat} {o:Ob} (h:(id<k.x/\k.ob=none)\/k.n<=id):k.of (U.set id o)=k.of U:=by
 unfold Kp.of
 congr 1
 .refine Bn λi=> ?_
  grind
 grind
theorem Kp.xj {k:Kp} {U:St} {id:Nat} {o o':Ob} (hx:k.ex.contains id) (ho:U[id]? =some o) (hk: ∀p,k.ob=some p->p.1=id->p.2 o'=p.2 o):k.of (U.set id o')=k.of U:=by
 unfold Kp.of
 congr 1
 .congr 1
  refine Bn λi=> ?_
  grind
 .cases aa:k.ob<;>grind
def xm (a b:Nat):Bool:=(a==4&&b !=0)||(b==4&&a !=0)||(a==3&&(b==3||b==2))||(b==3&&a==2)
def kN (ops:List Oper) (o:Oper):List Tmp:=(o.op.operands.toList.filterMap λ| .tmp t=>some t|_=>none)++(match o.guard with|some (j,_)=>(jF ops j).toList|none=> [])++(o.dst.map (100000+ ·)).toList
def cH (P:Program) (d:Option Tmp) (e:Env) (op:Op):Prop:=wP e d=false\/ ∀e U,gE P e U op=bX P e U op
theorem pv {P:Program} {d:Option Tmp} {e:Env} {op:Op} (h:cH P d e op) (U:St):xB P d e U op=bX P e U op:=by
 unfold xB
 rcases h with h|h
 all_goals grind
theorem Pu {d:Option Tmp} {e e':Env} (h: ∀t,d=some t->e (100000+t)=e' (100000+t)):wP e d=wP e' d:=by
 cases d with
 |none=>rfl
 |some t=>simp only[wP,h t rfl]
def dM:List Oper->List afF->List afF
 | [],acc=>acc
 |o::os,acc=>dM os (acc++ [((o.after.toList.filter (Region.binds .any)).flatMap λe=>e.on::acc.getD e.on []).eraseDups])
def nK (ops:List Oper) (q:List (Nat×Nat)) (i j:Nat) (a b:Oper):Bool:=
 xm (zQ q i a) (zQ q j b)||
 (match a.dst with|some d=>(kN ops b).contains d||b.dst==some d|none=>false)||(match b.dst with|some d=>(kN ops a).contains d|none=>false)
def ta (ops:List Oper) (q:List (Nat×Nat)):Bool:=
 let b:=dM ops []
 (List.range ops.length).all λj=>(List.range j).all λi=>
  match ops[i]?,ops[j]? with
  |some x,some y=> !nK ops q i j x y||(b.getD j []).contains i
  |_,_=>true
def xT (ops:List Oper):Bool:=(List.range ops.length).all λj=>match ops[j]? with|some o=>o.after.all λe=> !Region.binds .any e||decide (e.on<j)|none=>true
section
variable {P:Program} {c:Ctx} {nt:Nat} {n0:Kp}
variable {U:St}{e:Env}{e':Env}
theorem Pv (ops:List Oper) (D:Nat->Prop) (hD: ∀(j:Nat) o,ops[j]? =some o->D j-> ∀e∈o.after.toList,Region.binds .any e=true->D e.on):
  ∀(rest pre:List Oper) (acc:List afF),ops=pre++rest->acc.length=pre.length->(∀j l,acc[j]? =some l->D j-> ∀i∈l,D i)->
   ∀j l,(dM rest acc)[j]? =some l->D j-> ∀i∈l,D i
 | [],_,acc,_,_,h=>h
 |o::rest,pre,acc,aa,hlen,h=>by
  rw[dM]
  refine Pv ops D hD rest (pre++ [o]) _ (by grind) (by grind) λj l hj ab i hi=> ?_
  rcases xC hj with ⟨_,hj⟩|⟨hj,hl⟩
  .grind
  .have ad:j=pre.length:=om
   rw[hl]at hi
   have ae:=List.mem_eraseDups.1 hi
   grind
def AL (n0:Kp):V->Bool
 | .ptr id _=>n0.has id
 | .iE id _ _ _ _=>n0.has id
 |_=>true
def fY (n0:Kp) (U U':St):Prop:=(∃ext,U'=U++ext)\/n0.of U'=n0.of U
theorem fY.refl {n0:Kp}:fY n0 U U:= .inr rfl
def Fact (P:Program) (c:Ctx) (nt:Nat) (n0:Kp) (ops:List Oper) (q:List (Nat×Nat)) (i:Nat) (o:Oper) (e:Env) (U:St) (v:V) (U':St):Prop:=
 (∀t,o.dst=some t->t<nt)/\(zQ q i o<3->U'=U)/\(zQ q i o=3->fY n0 U U')/\U.length<=U'.length/\
 ∃g:Bool,(match o.guard with|none=>g=true|some (j,want)=> ∃t,jF ops j=some t/\((∃b,e t= .bool b/\g=(b==want))\/(e t= .cm []/\g=false)))/\
  (if g then(match o.op with
   | .call ⟨.value f,args,_⟩=>(if zQ q i o=0 then∀s,VC P c (zF e f) (args.toList.map (zF e)) s (λr s'=>r=v/\s'=s)else if zQ q i o=1 then∀s,n0.of s=n0.of U->VC P c (zF e f) (args.toList.map (zF e)) s (λr s'=>r=v/\s'=s)else VC P c (zF e f) (args.toList.map (zF e)) U (λr s=>r=v/\s=U'))
   |op=>(zQ q i o<3->cH P o.dst e op)/\(zQ q i o=0->lk op=0)/\(zQ q i o=1->(∃t x,op= .load t x/\AL n0 (zF e x)=true)\/(∀t x,op≠ .load t x)/\ ∀s,n0.of s=n0.of U->bX P e s op=bX P e U op)/\
    ((xB P o.dst e U op= .ok v/\U'=U)\/(∃p,xB P o.dst e U op= .dW p v/\p/\U'=U)\/(3<=zQ q i o/\(xB P o.dst e U op= .st v U'\/ ∃p,xB P o.dst e U op= .cE p v U'/\p))))
   else v= .cm []/\U'=U)
def eN (e:Env) (d:Option Tmp) (v:V):Env:=match d with|some t=>dK e t v|none=>e
def mc (P:Program) (c:Ctx) (nt:Nat) (n0:Kp) (ops:List Oper) (q:List (Nat×Nat)):Nat->List Oper->Env->St->List (V×St)->Prop
 |_,[],_,_,[]=>True
 |i,o::os,e,U,(v,U')::tr=>Fact P c nt n0 ops q i o e U v U'/\mc P c nt n0 ops q (i+1) os (eN e o.dst v) U' tr
 |_,_,_,_,_=>False
def fE (D:Nat->Bool):Nat->List Oper->List (V×St)->Env->Env
 |i,o::os,(v,_)::tr,e=>fE D (i+1) os tr (if D i then eN e o.dst v else e)
 |_,_,_,e=>e
def fS (D:Nat->Bool) (q:List (Nat×Nat)):Nat->List Oper->List (V×St)->St->St
 |i,o::os,(_,U')::tr,s=>fS D q (i+1) os tr (if D i&&decide (3<=zQ q i o)then U' else s)
 |_,_,_,s=>s
theorem pw (e:Env) (d:Option Tmp) (v:V) (t:Tmp) (h:d=some t):eN e d v t=v:=by simp_all[eN,dK]
theorem wC (e:Env) (d:Option Tmp) (v:V) (t:Tmp) (h:d≠some t):eN e d v t=e t:=by
 cases d with
 |none=>rfl
 |some d=>simp only[eN,dK];grind
theorem wT (D D':Nat->Bool) (t:Tmp): ∀(os:List Oper) (tr:List (V×St)) (i:Nat) (e e':Env),e t=e' t->(∀(k:Nat) o,os[k]? =some o->o.dst=some t->D (i+k)=D' (i+k))->fE D i os tr e t=fE D' i os tr e' t
 | [],_,_,_,_,h,_=>by simpa
 |o::os,[],_,_,_,h,_=>by simpa
 |o::os,(v,s)::tr,i,e,e',h,hD=>by
  rw[fE,fE]
  refine wT D D' t os tr (i+1) _ _ ?_ (λk o' hk hd=>by have:=hD (k+1) o' (sU hk) hd;grind)
  by_cases hd:o.dst=some t
  .have:=hD 0 o rfl hd
   rw[D2]at this
   grind[pw]
  grind[wC]
theorem Ef (D:Nat->Bool) (t:Tmp) (os:List Oper) (tr:List (V×St)) (i:Nat) (e:Env) (h: ∀(k:Nat) o,os[k]? =some o->o.dst=some t->D (i+k)=false):fE D i os tr e t=e t:=by
 have h1:=wT D (λ_=>false) t os tr i e e rfl om
 rw[h1]
 clear h h1
 induction os generalizing tr i with
 |nil=>rfl
 |cons o os ih=>cases tr<;>simp_all[fE]
theorem rD (D:Nat->Bool) (t:Tmp): ∀(os:List Oper) (tr:List (V×St)) (i k:Nat) (e:Env) (o:Oper) (v:V) (s:St),os[k]? =some o->tr[k]? =some (v,s)->o.dst=some t->D (i+k)=true->(∀(k':Nat) o',k<k'->os[k']? =some o'->o'.dst=some t->D (i+k')=false)->fE D i os tr e t=v
 | [],_,_,_,_,_,_,_,h,_,_,_,_=>by grind
 |_::_,[],_,_,_,_,_,_,_,h,_,_,_=>by grind
 |o1::os,(v1,s1)::tr,i,0,e,o,v,s,h1,h2,hd,hD,hl=>by
  simp at h1 h2
  obtain⟨rfl,rfl⟩:=h2
  subst h1
  rw[fE,afb om,Ef]
  .grind[pw]
  .intro k o' hk aa
   have:=hl (k+1) o' om (sU hk) aa
   grind
 |o1::os,(v1,s1)::tr,i,k+1,e,o,v,s,h1,h2,hd,hD,hl=>by
  rw[fE]
  refine rD D t os tr (i+1) k _ o v s (sU h1) (sU h2) hd (by rwa [show i+1+k=i+(k+1) by omega]) λk' o' ad ab aa=> ?_
  have:=hl (k'+1) o' om (sU ab) aa
  rwa [show i+1+k'=i+(k'+1) by omega]
theorem mD (D D':Nat->Bool) (q:List (Nat×Nat)): ∀(os:List Oper) (tr:List (V×St)) (i:Nat) (s:St),(∀(k:Nat) o,os[k]? =some o->3<=zQ q (i+k) o->D (i+k)=D' (i+k))->fS D q i os tr s=fS D' q i os tr s
 | [],_,_,_,_=>by rfl
 |o::os,[],_,_,_=>by rfl
 |o::os,(v,U')::tr,i,s,h=>by
  rw[fS,fS]
  have e1:(if(D i&&decide (3<=zQ q i o))=true then U' else s)=(if(D' i&&decide (3<=zQ q i o))=true then U' else s):=by
   by_cases hk:3<=zQ q i o
   .have:=h 0 o rfl om
    grind
   grind
  rw[e1]
  exact mD D D' q os tr (i+1) _ (λk o' hk hd=>by have:=h (k+1) o' (by grind) (by grind);grind)
theorem rE (D:Nat->Bool) (q:List (Nat×Nat)) (os:List Oper) (tr:List (V×St)) (i:Nat) (s:St) (h: ∀(k:Nat) o,os[k]? =some o->3<=zQ q (i+k) o->D (i+k)=false):fS D q i os tr s=s:=by
 have h1:=mD D (λ_=>false) q os tr i s h
 rw[h1]
 clear h h1
 induction os generalizing tr i with
 |nil=>rfl
 |cons o os ih=>cases tr<;>simp_all[fS]
theorem uz (D:Nat->Bool) (q:List (Nat×Nat)): ∀(os:List Oper) (tr:List (V×St)) (i k:Nat) (s:St) (o:Oper) (v:V) (U':St),os[k]? =some o->tr[k]? =some (v,U')->3<=zQ q (i+k) o->D (i+k)=true->(∀(k':Nat) o',k<k'->os[k']? =some o'->3<=zQ q (i+k') o'->D (i+k')=false)->fS D q i os tr s=U'
 | [],_,_,_,_,_,_,_,h,_,_,_,_=>by grind
 |_::_,[],_,_,_,_,_,_,_,h,_,_,_=>by grind
 |o1::os,(v1,s1)::tr,i,0,s,o,v,U',h1,h2,hd,hD,hl=>by
  simp at h1 h2
  obtain⟨rfl,rfl⟩:=h2
  subst h1
  rw[D2]at hd hD
  rw[fS,afb (by grind),rE]
  intro k o' hk aa
  have:=hl (k+1) o' om (by grind) (by grind)
  grind
 |o1::os,(v1,s1)::tr,i,k+1,s,o,v,U',h1,h2,hd,hD,hl=>by
  rw[fS]
  refine uz D q os tr (i+1) k _ o v U' (sU h1) (sU h2) (by rwa [show i+1+k=i+(k+1) by omega]) (by rwa [show i+1+k=i+(k+1) by omega]) λk' o' ad ab aa=> ?_
  have:=hl (k'+1) o' om (sU ab) (by rwa [show i+(k'+1)=i+1+k' by omega])
  rwa [show i+1+k'=i+(k'+1) by omega]
theorem rF (ops:List Oper) (q:List (Nat×Nat)): ∀(os:List Oper) (tr:List (V×St)) (i:Nat) (e:Env) (U:St),mc P c nt n0 ops q i os e U tr->
  tr.length=os.length/\ ∀(k:Nat) o,os[k]? =some o-> ∃v U',tr[k]? =some (v,U')/\Fact P c nt n0 ops q (i+k) o (fE (λj=>decide (j<i+k)) i os tr e) (fS (λj=>decide (j<i+k)) q i os tr U) v U'
 | [],[],_,_,_,_=>sm
 | [],_::_,_,_,_,h=>h.elim
 |_::_,[],_,_,_,h=>h.elim
 |o::os,(v,U')::tr,i,e,U,⟨hf,ht⟩=>by
  obtain⟨hl,aa⟩:=rF ops q os tr (i+1) _ _ ht
  refine⟨by grind,λk o' hk=> ?_⟩
  cases k with
  |zero=>
   simp at hk
   subst hk
   refine⟨v,U',rfl, ?_⟩
   rw[D2,fE,fS]
   have h1:(if(λj=>decide (j<i)) i=true then eN e o.dst v else e)=e:=sm
   have h2:(if((λj=>decide (j<i)) i&&decide (3<=zQ q i o))=true then U' else U)=U:=sm
   rw[h1,h2]
   have e1:fE (λj=>decide (j<i)) (i+1) os tr e=e:=by
    funext t
    grind[Ef]
   grind[rE]
  |succ k=>
   obtain⟨v2,s2,h1,h2⟩:=aa k o' (by grind)
   refine⟨v2,s2,by grind, ?_⟩
   rw[show i+(k+1)=i+1+k by omega]
   rw[fE,fS,afb (by grind)]
   have hs:(if((λj=>decide (j<i+1+k)) i&&decide (3<=zQ q i o))=true then U' else U)=U':=by
    by_cases ab:3<=zQ q i o
    .grind
    .rw[afa (by grind)]
     exact(hf.2.1 om).symm
   grind
theorem K0 (op:Op) (h: ∀x∈op.operands.toList,zF e x=zF e' x):bX P e U op=bX P e' U op:=by
 have hl: ∀l:List Operand,(∀x∈l,zF e x=zF e' x)->l.map (zF e)=l.map (zF e'):=sm
 have aa: ∀ps:List (Nat×Operand),(∀x∈ps.map (·.2),zF e x=zF e' x)->(ps.map λp=>(p.1,zF e p.2))=(ps.map λp=>(p.1,zF e' p.2)):=λps hp=>
  Bq (by grind)
 cases op with
 |build t ps=>grind[bX,Op.operands]
 |buildSlice t n ps=>grind[bX,Op.operands]
 |makeFunc fn first bU=>grind[bX,Op.operands]
 |slice t x lo hi mx=>cases lo<;>cases hi<;>cases mx<;>simp_all[bX,Op.operands]
 |makeMap t r=>cases r<;>simp_all[bX,Op.operands]
 |next x b=>cases b<;>simp_all[bX,Op.operands]
 |call cl=>
  obtain⟨ab,args,ts⟩:=cl
  cases ab with
  |builtin b=>
   have h': ∀x∈args.toList,zF e x=zF e' x:=(by grind[Op.operands,Call.operands])
   obtain⟨args⟩:=args
   cases b<;>simp only[bX]
   all_goals grind
  |_=>simp only[bX]
 |_=>first|rfl|(simp_all[bX,Op.operands];done)
theorem WB (op:Op) (h: ∀x∈op.operands.toList,zF e x=zF e' x):gE P e U op=gE P e' U op:=by
 have hc:=K0 (P:=P) (U:=U) op h
 have aa: ∀ps:List (Nat×Operand),(∀x∈ps.map (·.2),zF e x=zF e' x)->(ps.map λp=>(p.1,zF e p.2))=(ps.map λp=>(p.1,zF e' p.2)):=λps hp=>
  Bq (by grind)
 cases op with
 |buildSlice t n ps=>grind[gE,Op.operands]
 |makeSlice t l m=>grind[gE,Op.operands]
 |convert t t' x=>grind[gE,Op.operands]
 |slice t x lo hi mx=>
  cases lo with
  |none=>exact hc
  |some lo=>cases hi with
   |some _=>exact hc
   |none=>cases mx<;>grind[gE,Op.operands]
 |next x b=>cases b<;>simp_all[gE,Op.operands]
 |call cl=>
  obtain⟨ab,args,ts⟩:=cl
  cases ab with
  |builtin b=>
   have h': ∀x∈args.toList,zF e x=zF e' x:=(by grind[Op.operands,Call.operands])
   obtain⟨args⟩:=args
   cases b
   case append=>simp only[gE];grind
   all_goals simpa
  |_=>exact hc
 |_=>exact hc
theorem Pw {d:Option Tmp} (op:Op) (hd:wP e d=wP e' d) (h: ∀x∈op.operands.toList,zF e x=zF e' x):xB P d e U op=xB P d e' U op:=by
 grind[xB,K0,WB]
theorem WC {U':St} (o:Oper) (hc: ∀f az ts,o.op≠ .call ⟨.value f,az,ts⟩) (h:lk o.op=0):bX P e U o.op=bX P e U' o.op:=by
 obtain⟨dst,op,ty,pos,dG,g⟩:=o
 simp only at h hc⊢
 cases op with
 |call cl=>
  obtain⟨aa,args,ts⟩:=cl
  cases aa with
  |builtin b=>obtain⟨args⟩:=args;cases b<;>first|(simp[lk]at h;done)|(simp only[bX];done)|(simp only[bX];split<;>first|rfl|contradiction|(rename_i heq;simp at heq))
  |value f=>rfl
  |_=>rfl
 |slice t x lo hi mx=>cases lo<;>cases hi<;>cases mx<;>rfl
 |_=>first|rfl|(simp[lk]at h;done)
section
variable {e:Env} {U:St} {a:Act} {w:World} {L:Nat->Nat} {I:afG}
theorem Eg {ops:List Oper} {Q:Exit->Act->World->Prop} {next:Act->World->Prop} (o:Oper) {K:Env->St->Prop} (h:dp c nt e U a w L I) (hK:rb o.guard ops e (ik P c nt o.dst o.op K e U) (eC nt o.dst (.cm []) K e U))
  (hn: ∀e' U' a' w' L' I',dp c nt e' U' a' w' L' I'->K e' U'->next a' w'):
  if Region.wanted o (yielded ops.toArray a.tmps)then o.wp P a w next Q\/(o.asks P a w/\LetsOut Q)else next (a.put o.dst undef) w:=by
 have no:eC nt o.dst (.cm []) K e U->next (a.put o.dst undef) w:=λhv=>by
  obtain⟨e',hs,hk⟩:=DB h h.mem (Le.refl _ _) (Ext.refl _ _) (show cV w L U I (.cm []) undef from⟨[],rfl,tV⟩) hv
  grind
 unfold rb at hK
 split at hK
 .rename_i hg
  rw[afb (by grind[Region.wanted])]
  grind[HR]
 .rename_i j want hg
  split at hK
  .rename_i t ht
   have hv:=h.env t
   unfold jZ at hK
   split at hK
   .rename_i b hb
    rw[hb]at hv
    have hv:=oH hv
    have hy:yielded ops.toArray a.tmps j=some b:=by
     unfold yielded
     unfold jF at ht
     have aa:(ops.toArray[j]?).bind (·.dst)=some t:=by grind
     rw[aa]
     simp only[Ao]
     have ab:t<a.tmps.size:=by
      rcases Bo t a.tmps.size with q|q
      .exact q
      .simp[Array.getD,Nat.not_lt.2 q,undef]at hv
     simp_all
    by_cases ad:b=want
    .rw[afb (by grind[Region.wanted])]
     grind[HR]
    simp_all[Region.wanted]
   .rename_i hb
    rw[hb]at hv
    rw[afa (by grind[Region.wanted,Pj])]
    grind
   grind
  grind
theorem uA {d:Option Tmp} {v:V} {K:Env->St->Prop} (hd: ∀t,d=some t->t<nt) (h:K (eN e d v) U):eC nt d v K e U:=by
 cases d with
 |none=>exact h
 |some t=>exact⟨hd t rfl,h⟩
theorem WD {t:TypeId} {S:St} {x:V} (h:AL n0 x) (ht:n0.of U=n0.of S):my P t U x=my P t S x:=by
 cases x with
 |ptr id off=>
  have:U[id]? =S[id]? :=Kp.get h ht
  grind[my]
 |iE id s n k j=>
  have:U[id]? =S[id]? :=Kp.get h ht
  grind[my]
 |_=>rfl
theorem Fact.step {ops:List Oper} {q:List (Nat×Nat)} {i:Nat} {o:Oper} {E:Env} {S:St} {v:V} {U':St} (hf:Fact P c nt n0 ops q i o E S v U') (he: ∀t∈kN ops o,e t=E t) (hs:2<=zQ q i o->U=S) (h1:zQ q i o=1->n0.of U=n0.of S):
  rb o.guard ops e (ik P c nt o.dst o.op (λe' s'=>e'=eN e o.dst v/\s'=if 3<=zQ q i o then U' else U) e U) (eC nt o.dst (.cm []) (λe' s'=>e'=eN e o.dst v/\s'=if 3<=zQ q i o then U' else U) e U):=by
 obtain⟨hd,av,_,_,g,hg,hb⟩:=hf
 have ah: ∀x∈o.op.operands.toList,zF e x=zF E x:=λx hx=>by
  cases x with
  |tmp t=>exact he t (Di _ (by grind))
  |_=>rfl
 have keep:U'=S->(if 3<=zQ q i o then U' else U)=U:=(by grind)
 have yes:g=true->ik P c nt o.dst o.op (λe' s'=>e'=eN e o.dst v/\s'=if 3<=zQ q i o then U' else U) e U:=by
  intro al
  rw[afb al]at hb
  unfold ik
  split
  .rename_i f args ts ab
   rw[ab]at hb ah
   simp only at hb
   have an:=h1
   have h1:zF e f=zF E f:=(by grind[Op.operands,Call.operands])
   have h2:args.toList.map (zF e)=args.toList.map (zF E):=(by grind[Bq,Op.operands,Call.operands])
   rw[h1,h2]
   split at hb
   .rename_i ao
    refine(hb U).mono ?_
    rintro x s' ⟨rfl,rfl⟩
    exact uA hd (by grind)
   .rename_i ao
    split at hb
    .rename_i aa
     refine(hb U (an aa)).mono ?_
     rintro x s' ⟨rfl,rfl⟩
     exact uA hd (by grind)
    rename_i aa
    rw[hs om]
    refine hb.mono ?_
    rintro x s' ⟨rfl,rfl⟩
    refine uA hd ⟨rfl, ?_⟩
    grind
  .rename_i aw
   have ad:(zQ q i o<3->cH P o.dst E o.op)/\(zQ q i o=0->lk o.op=0)/\(zQ q i o=1->(∃t x,o.op= .load t x/\AL n0 (zF E x)=true)\/(∀t x,o.op≠ .load t x)/\ ∀s,n0.of s=n0.of S->bX P E s o.op=bX P E S o.op)/\((xB P o.dst E S o.op= .ok v/\U'=S)\/(∃p,xB P o.dst E S o.op= .dW p v/\p/\U'=S)\/(3<=zQ q i o/\(xB P o.dst E S o.op= .st v U'\/ ∃p,xB P o.dst E S o.op= .cE p v U'/\p))):=by
    grind
   obtain⟨hh,hz,ho,ad⟩:=ad
   have ax:wP e o.dst=wP E o.dst:=(by grind[Pu,kN])
   have ae:xB P o.dst e U o.op=xB P o.dst E S o.op:=by
    by_cases h3:zQ q i o<3
    .have ai:=hh h3
     have aq:cH P o.dst e o.op:=by
      unfold cH at ai⊢
      grind
     rw[pv aq,pv ai,K0 o.op ah]
     by_cases h0:zQ q i o=0
     .grind[WC]
     .by_cases aa:zQ q i o=1
      .rcases ho aa with ⟨t,x,ab,aj⟩|⟨_,aj⟩
       .rw[ab]
        exact WD aj (h1 aa)
       grind
      grind
    grind[Pw]
   rw[ae]
   rcases ad with ⟨hr,hq⟩|⟨p,hr,hp,hq⟩|⟨h2,hr|⟨p,hr,hp⟩⟩
   .rw[hr];exact uA (K:=(λe' s'=>e'=eN e o.dst v/\s'=if 3<=zQ q i o then U' else U)) hd (by grind)
   .rw[hr];exact⟨hp,uA (K:=(λe' s'=>e'=eN e o.dst v/\s'=if 3<=zQ q i o then U' else U)) hd (by grind)⟩
   .rw[hr]
    show eC nt o.dst v (λe' s'=>e'=eN e o.dst v/\s'=if 3<=zQ q i o then U' else U) e U'
    exact uA (K:=(λe' s'=>e'=eN e o.dst v/\s'=if 3<=zQ q i o then U' else U)) hd (by grind)
   .rw[hr]
    show p/\eC nt o.dst v (λe' s'=>e'=eN e o.dst v/\s'=if 3<=zQ q i o then U' else U) e U'
    exact⟨hp,uA (K:=(λe' s'=>e'=eN e o.dst v/\s'=if 3<=zQ q i o then U' else U)) hd (by grind)⟩
 have no:g=false->eC nt o.dst (.cm []) (λe' s'=>e'=eN e o.dst v/\s'=if 3<=zQ q i o then U' else U) e U:=by
  intro ar
  rw[afa (by simp[ar])]at hb
  obtain⟨rfl,hq⟩:=hb
  exact uA hd (by grind)
 unfold rb
 split
 .grind
 .rename_i j want au
  rw[au]at hg
  obtain⟨t,ht,af⟩:=hg
  rw[ht]
  simp only
  have:e t=E t:=he t (Di _ (by grind))
  rcases af with ⟨b,ag,ak⟩|⟨ag,ak⟩
  .rw[this,ag]
   exact⟨(by grind),(by grind)⟩
  .rw[this,ag]
   exact no ak
end
variable {ops:List Oper}{q:List (Nat×Nat)}{i:Nat}{j:Nat}{tr:List (V×St)}
theorem zY {a b:Oper} (h:nK ops q i j a b=false):
  xm (zQ q i a) (zQ q j b)=false/\(∀d,a.dst=some d->d∉kN ops b/\b.dst≠some d)/\(∀d,b.dst=some d->d∉kN ops a):=by
 grind[nK]
theorem yR (q:List (Nat×Nat)) (i:Nat) (o:Oper):zQ q i o<=4:=by
 unfold zQ
 split
 .omega
 .unfold lk
  grind
theorem qm {a b:Nat} (ha:3<=a) (aa:a<=4) (hb:2<=b) (ab:b<=4):xm a b=true:=by
 have h1:a=3\/a=4:=om
 have h2:b=2\/b=3\/b=4:=om
 rcases h1 with rfl|rfl<;>rcases h2 with rfl|rfl|rfl<;>rfl
theorem Eh (a b:Nat):xm a b=xm b a:=by
 grind[xm]
theorem Ei {b:Nat} (hb:1<=b):xm 4 b=true:=by
 grind[xm]
theorem Ej {e0:Env} {bT:St} (ht:mc P c nt n0 ops q 0 ops e0 bT tr) (hn:n0.n<=bT.length):
  ∀(d j:Nat),j+d<=ops.length->(∀(m:Nat) o,j<=m->m<j+d->ops[m]? =some o->zQ q m o≠4)->
   n0.n<=(fS (λx=>decide (x<j)) q 0 ops tr bT).length/\n0.of (fS (λx=>decide (x<j+d)) q 0 ops tr bT)=n0.of (fS (λx=>decide (x<j)) q 0 ops tr bT):=by
 obtain⟨_,aa⟩:=rF ops q ops tr 0 e0 bT ht
 have next: ∀k,k<ops.length-> ∃o v U',ops[k]? =some o/\Fact P c nt n0 ops q k o (fE (λj=>decide (j<k)) 0 ops tr e0) (fS (λj=>decide (j<k)) q 0 ops tr bT) v U'/\fS (λj=>decide (j<k+1)) q 0 ops tr bT=U':=by
  intro k hk
  obtain⟨v,U',ab,hf⟩:=aa k ops[k] sm
  rw[A7]at hf
  refine⟨ops[k],v,U',sm,hf, ?_⟩
  by_cases h3:3<=zQ q k ops[k]
  .refine uz _ q ops tr 0 k bT ops[k] v U' sm ab (by grind) sm (by grind)
  .have:=hf.2.1 om
   rw[this]
   refine mD _ _ q ops tr 0 bT λm o' hm ad=> ?_
   grind
 have len: ∀j,j<=ops.length->n0.n<=(fS (λx=>decide (x<j)) q 0 ops tr bT).length:=by
  intro j
  induction j with
  |zero=>grind[rE]
  |succ j ih=>
   intro hj
   obtain⟨o,v,U',_,hf,he⟩:=next j om
   rw[he]
   exact An om hf.2.2.2.1
 intro d
 induction d with
 |zero=>grind
 |succ d ih=>
  intro j hj h4
  obtain⟨h1,h2⟩:=ih j om (by grind)
  refine⟨h1, ?_⟩
  obtain⟨o,v,U',ho,hf,he⟩:=next (j+d) om
  rw[show j+(d+1)=j+d+1 by omega,he,<-h2]
  have ae:=h4 (j+d) o om om ho
  have hle:=yR q (j+d) o
  by_cases h3:zQ q (j+d) o=3
  .rcases hf.2.2.1 h3 with ⟨ext,hx⟩|hx
   .rw[hx,Kp.ji (len (j+d) om)]
   omega
  .rw[hf.2.1 om]
theorem uB (h:ta ops q) {x y:Oper} (aa:i<j) (hx:ops[i]? =some x) (hy:ops[j]? =some y):
  nK ops q i j x y=false\/i∈(dM ops []).getD j []:=by
 unfold ta at h
 grind
theorem xO {D:Nat->Bool} (hD: ∀(j:Nat) o,ops[j]? =some o->D j=true-> ∀e∈o.after.toList,Region.binds .any e=true->D e.on) (hi:i∈(dM ops []).getD j []) (hj:D j):D i=true:=by
 rw[A9]at hi
 cases hb:(dM ops [])[j]? with
 |none=>grind
 |some l=>
  rw[hb]at hi
  exact Pv ops (λk=>D k=true) hD ops [] [] rfl rfl sm j l hb hj i (by grind)
theorem K3 {l:Array Bool} (h:l[i]? =some false):(l.setIfInBounds i true).toList.count false+1=l.toList.count false:=by
 grind
theorem WE {Q:Exit->Env->St->Prop} {e0:Env} {bT:St} (hn:n0.n<=bT.length) (hd:ta ops q) (av:xT ops) (ht:mc P c nt n0 ops q 0 ops e0 bT tr)
  (hQ:Q .normal (fE (λ_=>true) 0 ops tr e0) (fS (λ_=>true) q 0 ops tr bT)):
  ∀(fuel:Nat) (bF:Array Bool) (a:Act) (w:World) (L:Nat->Nat) (I:afG),bF.size=ops.length->bF.toList.count false=fuel->
   (∀(j:Nat) o,ops[j]? =some o->bF.getD j false=true-> ∀e∈o.after.toList,Region.binds .any e=true->bF.getD e.on false=true)->
   dp c nt (fE (λi=>bF.getD i false) 0 ops tr e0) (fS (λi=>bF.getD i false) q 0 ops tr bT) a w L I->
   wpAny P .any ops.toArray (dH c nt Q) fuel bF a w:=by
 obtain⟨aw,aI⟩:=rF ops q ops tr 0 e0 bT ht
 have fin: ∀(bF:Array Bool) (a:Act) (w:World) (L:Nat->Nat) (I:afG),dp c nt (fE (λi=>bF.getD i false) 0 ops tr e0) (fS (λi=>bF.getD i false) q 0 ops tr bT) a w L I->
   (∀i,i<ops.length->bF.getD i false=true)->dH c nt Q .normal a w:=by
  intro bF a w L I hs ab
  have e1:fE (λi=>bF.getD i false) 0 ops tr e0=fE (λ_=>true) 0 ops tr e0:=by
   funext t
   exact wT _ _ t ops tr 0 e0 e0 rfl λk o hk _=>by rw[A7];exact ab k (A1.1 hk).1
  have e2:fS (λi=>bF.getD i false) q 0 ops tr bT=fS (λ_=>true) q 0 ops tr bT:=
   mD _ _ q ops tr 0 bT λk o hk _=>by rw[A7];exact ab k (A1.1 hk).1
  rw[e1,e2]at hs
  exact⟨_,_,L,I,hs,hQ⟩
 have ax: ∀(bF:Array Bool),bF.size=ops.length->Region.ready .any ops.toArray bF= []-> ∀i,i<ops.length->bF.getD i false=true:=by
  intro bF ai hr i
  induction i using Nat.strongRecOn with
  |ind i ih=>
   intro hi
   cases an:bF.getD i false with
   |true=>rfl
   |false=>
    exfalso
    have hm:i∈Region.ready .any ops.toArray bF:=by
     refine mem_ready.2 ⟨?_,ops[i],by simp[hi],λe he hb=> ?_⟩
     .have af:i<bF.size:=om
      simpa[Array.getD,af]using an
     .unfold xT at av
      simp only[Ad,Bz]at av
      have:=av i hi
      rw[A0 hi]at this
      simp only[Bd]at this
      have:=this e he
      simp only[hb,E0,Bj,afe]at this
      exact ih e.on this om
    rw[hr]at hm
    cases hm
 intro fuel
 induction fuel with
 |zero=>
  intro bF a w L I ai aA ao hs
  have ab: ∀i,i<ops.length->bF.getD i false:=by
   intro i hi
   have af:i<bF.size:=om
   cases an:bF[i]with
   |true=>simp[Array.getD,af,an]
   |false=>
    exfalso
    have:false∈bF.toList:=by
     rw[<-an];simp
    have:=List.count_pos_iff.2 this
    omega
  refine⟨?_,fin bF a w L I hs ab⟩
  cases hr:Region.ready .any ops.toArray bF with
  |nil=>rfl
  |cons i l=>
   exfalso
   have hm:i∈Region.ready .any ops.toArray bF:=by rw[hr];simp
   obtain⟨h1,o,ho,_⟩:=mem_ready.1 hm
   have hi:i<ops.length:=(A1.1 (sU ho)).1
   have:=ab i hi
   have af:i<bF.size:=om
   simp[Array.getD,af]at this h1
   rw[this]at h1
   cases h1
 |succ fuel ih=>
  intro bF a w L I ai aA ao hs
  refine⟨λhr=>fin bF a w L I hs (ax bF ai hr),λi hi=> ?_⟩
  obtain⟨h1,o,ho,ay⟩:=mem_ready.1 hi
  have aa:ops[i]? =some o:=sU ho
  have af:i<bF.size:=by rw[ai];exact(A1.1 aa).1
  have aq:bF.getD i false=false:=by
   simp[Array.getD,af]at h1⊢;exact h1
  have ah: ∀k,k≠i->(bF.setIfInBounds i true).getD k false=bF.getD k false:=λk hk=>getD_set_ne false (λq=>hk q.symm)
  have az:(bF.setIfInBounds i true).getD i false:=by simp[Array.getD,af]
  have au: ∀(j:Nat) o,ops[j]? =some o->(bF.setIfInBounds i true).getD j false=true-> ∀e∈o.after.toList,Region.binds .any e=true->(bF.setIfInBounds i true).getD e.on false=true:=by
   intro j o' hj aB e he hb
   by_cases aC:j=i
   .subst aC
    rw[aa]at hj
    cases hj
    exact getD_set_true (ay e (sU he) hb)
   .rw[ah j aC]at aB
    exact getD_set_true (ao j o' hj aB e he hb)
  have ahead: ∀{k:Nat},k≠i->k∈(dM ops []).getD i []->bF.getD k false=true:=fun{k} hk hb=>by
   have:=xO (D:=λj=>(bF.setIfInBounds i true).getD j false) au hb az
   rwa [ah k hk]at this
  have wX: ∀{k:Nat},i∈(dM ops []).getD k []->bF.getD k false=false:=fun{k} hb=>by
   cases hk:bF.getD k false with
   |false=>rfl
   |true=>
    have:=xO (D:=λj=>bF.getD j false) ao hb hk
    rw[aq]at this;cases this
  obtain⟨v,U',aD,aj⟩:=aI i o aa
  rw[A7]at aj
  have aE: ∀t∈kN ops o,fE (λi=>bF.getD i false) 0 ops tr e0 t=fE (λj=>decide (j<i)) 0 ops tr e0 t:=by
   intro t aw
   refine wT _ _ t ops tr 0 e0 e0 rfl λk o' hk ae=> ?_
   rw[A7]
   rcases Aw k i with ad|ad|ad
   .rw[afd ad]
    rcases uB hd ad hk aa with hc|hb
    .exact absurd aw ((zY hc).2.1 t ae).1
    .exact ahead om hb
   .subst ad;rw[aq];simp
   .rw[afc om]
    rcases uB hd ad aa hk with hc|hb
    .exact absurd aw ((zY hc).2.2 t ae)
    .exact wX hb
  have ar:2<=zQ q i o->fS (λi=>bF.getD i false) q 0 ops tr bT=fS (λj=>decide (j<i)) q 0 ops tr bT:=by
   intro ag
   refine mD _ _ q ops tr 0 bT λk o' hk ae=> ?_
   rw[A7]at ae⊢
   rcases Aw k i with ad|ad|ad
   .rw[afd ad]
    rcases uB hd ad hk aa with hc|hb
    .have:=(zY hc).1
     rw[qm ae (yR _ _ _) ag (yR _ _ _)]at this
     cases this
    .exact ahead om hb
   .subst ad;rw[aq];simp
   .rw[afc om]
    rcases uB hd ad aa hk with hc|hb
    .have:=(zY hc).1
     rw[Eh,qm ae (yR _ _ _) ag (yR _ _ _)]at this
     cases this
    .exact wX hb
  have aF:zQ q i o=1->n0.of (fS (λi=>bF.getD i false) q 0 ops tr bT)=n0.of (fS (λj=>decide (j<i)) q 0 ops tr bT):=by
   intro aG
   have pre: ∀N,N<=ops.length-> ∃m,m<=N/\ ∀k o',k<N->ops[k]? =some o'->3<=zQ q k o'->bF.getD k false=decide (k<m):=by
    intro N
    induction N with
    |zero=>exact λ_=>⟨0,A3 _,λk o' h=>om⟩
    |succ N aJ=>
     intro hN
     obtain⟨m,hm,ab⟩:=aJ om
     have aH:=A0 (show N<ops.length by omega)
     by_cases hw:3<=zQ q N (ops[N]'om)/\bF.getD N false=true
     .refine⟨N+1,A3 _,λk o' hk ak h3=> ?_⟩
      rw[afd hk]
      by_cases a1:k=N
      .subst a1;exact hw.2
      .rcases uB hd (show k<N by omega) ak aH with hc|hb
       .have:=(zY hc).1
        rw[qm h3 (yR _ _ _) om (yR _ _ _)]at this
        cases this
       .exact xO (D:=λj=>bF.getD j false) ao hb hw.2
     .refine⟨m,om,λk o' hk ak h3=> ?_⟩
      by_cases a1:k=N
      .subst a1
       rw[aH]at ak;cases ak
       rw[afc om]
       cases hl:bF.getD k false with
       |false=>rfl
       |true=>exact absurd ⟨h3,hl⟩ hw
      .exact ab k o' om ak h3
   obtain⟨m,hm,ab⟩:=pre ops.length (A3 _)
   have e1:fS (λi=>bF.getD i false) q 0 ops tr bT=fS (λx=>decide (x<m)) q 0 ops tr bT:=
    mD _ _ q ops tr 0 bT λk o' hk h3=>by
     rw[A7]at h3⊢
     exact ab k o' (A1.1 hk).1 hk h3
   rw[e1]
   have aP:i<ops.length:=(A1.1 aa).1
   rcases Nat.le_total m i with aK|aK
   .have:=(Ej ht hn (i - m) m om (λk o' h5 h6 hk h4=>by
     have h7:=ab k o' (A1.1 hk).1 hk om
     rw[afc om]at h7
     rcases uB hd (show k<i by omega) hk aa with hc|hb
     .have:=(zY hc).1
      rw[h4,aG,Ei dc]at this
      cases this
     .rw[ahead om hb]at h7;cases h7)).2
    rw[show m+(i - m)=i by omega]at this
    exact this.symm
   .have:=(Ej ht hn (m - i) i om (λk o' h5 h6 hk h4=>by
     have h7:=ab k o' (A1.1 hk).1 hk om
     rw[afd om]at h7
     have ad:k≠i:=λqq=>by
      subst qq
      rw[hk]at aa;cases aa
      omega
     rcases uB hd (show i<k by omega) aa hk with hc|hb
     .have:=(zY hc).1
      rw[Eh,h4,aG,Ei dc]at this
      cases this
     .rw[wX hb]at h7;cases h7)).2
    rw[show i+(m - i)=m by omega]at this
    exact this
  have aL:=Eg (ops:=ops) (Q:=dH c nt Q) (next:=wpAny P .any ops.toArray (dH c nt Q) fuel (bF.setIfInBounds i true)) o hs (aj.step aE ar aF) (by
   rintro e' s' a' w' L' I' aQ ⟨rfl,rfl⟩
   refine ih _ a' w' L' I' (sU ai) ?_ au ?_
   .have:=K3 (l:=bF) (i:=i) (by
     rw[As af]
     have:=aq
     simp[Array.getD,af]at this
     rw[this])
    omega
   .have e1:eN (fE (λi=>bF.getD i false) 0 ops tr e0) o.dst v=fE (λk=>(bF.setIfInBounds i true).getD k false) 0 ops tr e0:=by
     funext t
     by_cases al:o.dst=some t
     .rw[pw _ _ _ _ al]
      refine(rD _ t ops tr 0 i e0 o v U' aa aD al (by rw[A7];exact az) λk' o' a6 a7 a8=> ?_).symm
      rw[A7,ah k' om]
      rcases uB hd a6 aa a7 with hc|hb
      .exact absurd a8 ((zY hc).2.1 t al).2
      .exact wX hb
     .rw[wC _ _ _ _ al]
      refine wT _ _ t ops tr 0 e0 e0 rfl λk o' hk ae=> ?_
      rw[A7]
      refine(ah k λq=> ?_).symm
      subst q
      rw[aa]at hk;cases hk
      exact al ae
    have e2:(if 3<=zQ q i o then U' else fS (λi=>bF.getD i false) q 0 ops tr bT)=fS (λk=>(bF.setIfInBounds i true).getD k false) q 0 ops tr bT:=by
     split
     .rename_i ag
      refine(uz _ q ops tr 0 i bT o v U' aa aD (by rw[A7];exact ag) (by rw[A7];exact az) λk' o' a6 a7 a8=> ?_).symm
      rw[A7]at a8⊢
      rw[ah k' om]
      rcases uB hd a6 aa a7 with hc|hb
      .have:=(zY hc).1
       rw[qm ag (yR _ _ _) om (yR _ _ _)]at this
       cases this
      .exact wX hb
     .rename_i ag
      refine mD _ _ q ops tr 0 bT λk o' hk ae=> ?_
      rw[A7]at ae⊢
      refine(ah k λq=> ?_).symm
      subst q
      rw[aa]at hk;cases hk
      exact ag ae
    grind)
  grind[wpOp]
theorem VW.draw {id:Nat} {Q:Exit->Env->St->Prop} {e:Env} {U:St} (hm:P.follows .mixedOrders) (hn:n0.n<=U.length) (hd:ta ops q) (aa:xT ops)
  (ht:mc P c nt n0 ops q 0 ops e U tr) (hQ:Q .normal (fE (λ_=>true) 0 ops tr e) (fS (λ_=>true) q 0 ops tr U)):VW P c nt (.region id ops.toArray true) Q e U:=by
 intro a w L I hs
 refine wp_region_any hm ?_
 have hg: ∀j,(Array.replicate ops.toArray.size false).getD j false=false:=(by simp[Array.getD])
 have e1:fE (λi=>(Array.replicate ops.toArray.size false).getD i false) 0 ops tr e=e:=by
  funext t
  grind[Ef]
 have e2:fS (λi=>(Array.replicate ops.toArray.size false).getD i false) q 0 ops tr U=U:=(by grind[rE])
 refine WE hn hd aa ht hQ _ _ a w.drew L I sm sm (by grind) ?_
 rw[e1,e2]
 obtain⟨ab,hle⟩:=hs.mem.drew
 exact⟨ab,hs.size,hs.defs,λt=>(hs.env t).mono hle (Ext.refl _ _)⟩
end
def px:R->Bool
 | .st .. | .cE .. =>true
 |_=>false
def xn:R->Bool
 | .all _| .any _=>true
 |_=>false
def jj (n0:Kp) (k:Nat) (U:St):R->Prop
 | .st _ U'| .cE _ _ U'=>U.length<=U'.length/\(k=3->fY n0 U U')
 |_=>True
def ft (P:Program) (c:Ctx) (nt:Nat) (n0:Kp) (k:Nat) (d:Option Tmp) (op:Op) (K:KT) (e:Env) (U:St):Prop:=
 match op with
 | .call ⟨.value f,args,_⟩=> ∃v U',(if k=0 then∀s,VC P c (zF e f) (args.toList.map (zF e)) s (λr s'=>r=v/\s'=s)else if k=1 then∀s,n0.of s=n0.of U->VC P c (zF e f) (args.toList.map (zF e)) s (λr s'=>r=v/\s'=s)else VC P c (zF e f) (args.toList.map (zF e)) U (λr s=>r=v/\s=U'))/\
   (k<3->U'=U)/\(k=3->fY n0 U U')/\U.length<=U'.length/\eC nt d v K e U'
 |op=>(k<3->cH P d e op)/\xn (xB P d e U op)=false/\(k=0->lk op=0)/\(k=1->(∃t x,op= .load t x/\AL n0 (zF e x)=true)\/(∀t x,op≠ .load t x)/\ ∀s,n0.of s=n0.of U->bX P e s op=bX P e U op)/\(px (xB P d e U op)=true->3<=k)/\jj n0 k U (xB P d e U op)/\ly nt d (xB P d e U op) K e U
def nj (P:Program) (c:Ctx) (nt:Nat) (n0:Kp) (ops:List Oper) (q:List (Nat×Nat)):Nat->List Oper->KT->Env->St->Prop
 |_,[],K,e,U=>K e U
 |i,o::os,K,e,U=>rb o.guard ops e (ft P c nt n0 (zQ q i o) o.dst o.op (nj P c nt n0 ops q (i+1) os K) e U) (eC nt o.dst (.cm []) (nj P c nt n0 ops q (i+1) os K) e U)
section
variable {P:Program} {c:Ctx} {nt:Nat} {n0:Kp}
variable {x:Operand}{t:TypeId}{op:Op}{ops:List Oper}{i:Nat}{y:Operand}{f:FuncId}{bU:List V}{bZ:List V}{KV:V->St->Prop}{q:List (Nat×Nat)}{n:Nat}{ts:Array TypeId}{s1:St}
theorem K4 {d:Option Tmp} {v:V} {K:KT} {e:Env} {U:St} (h:eC nt d v K e U):(∀t,d=some t->t<nt)/\K (eN e d v) U:=by
 cases d<;>simpa
theorem rG {ops:List Oper} {q:List (Nat×Nat)}: ∀(os:List Oper) (i:Nat) (K:KT) (e:Env) (U:St),nj P c nt n0 ops q i os K e U->
  ∃tr,mc P c nt n0 ops q i os e U tr/\K (fE (λ_=>true) i os tr e) (fS (λ_=>true) q i os tr U)
 | [],i,K,e,U,h=>⟨[],tV,h⟩
 |o::os,i,K,e,U,h=>by
  have go: ∀(v:V) (U':St),Fact P c nt n0 ops q i o e U v U'->nj P c nt n0 ops q (i+1) os K (eN e o.dst v) U'-> ∃tr,mc P c nt n0 ops q i (o::os) e U tr/\K (fE (λ_=>true) i (o::os) tr e) (fS (λ_=>true) q i (o::os) tr U):=by
   intro v U' hf hk
   obtain⟨tr,ht,hK⟩:=rG os (i+1) K _ _ hk
   refine⟨(v,U')::tr,⟨hf,ht⟩, ?_⟩
   rw[fE,fS,afb rfl]
   have:(if((λ_=>true) i&&decide (3<=zQ q i o))=true then U' else U)=U':=by
    by_cases h2:3<=zQ q i o
    .grind
    .rw[afa (by simp[h2])];exact(hf.2.1 om).symm
   grind
  have yes:(match o.guard with|none=>True|some (j,want)=> ∃t b,jF ops j=some t/\e t= .bool b/\b=want)->ft P c nt n0 (zQ q i o) o.dst o.op (nj P c nt n0 ops q (i+1) os K) e U->
    ∃tr,mc P c nt n0 ops q i (o::os) e U tr/\K (fE (λ_=>true) i (o::os) tr e) (fS (λ_=>true) q i (o::os) tr U):=by
   intro hg hv
   have af: ∃g:Bool,(match o.guard with|none=>g=true|some (j,want)=> ∃t,jF ops j=some t/\((∃b,e t= .bool b/\g=(b==want))\/(e t= .cm []/\g=false)))/\g=true:=by
    refine⟨true, ?_,rfl⟩
    grind
   obtain⟨g,ab,rfl⟩:=af
   unfold ft at hv
   split at hv
   .rename_i f args ts ai
    obtain⟨v,U',aj,ag,h3,hlen,hp⟩:=hv
    obtain⟨hd,hk⟩:=K4 hp
    refine go v U' ⟨hd,ag,h3,hlen,true,ab, ?_⟩ hk
    grind
   .rename_i ak
    obtain⟨al,ad,hz,an,ae,aa,hv⟩:=hv
    have done: ∀v U',(zQ q i o<3->U'=U)->(zQ q i o=3->fY n0 U U')->U.length<=U'.length->
      ((xB P o.dst e U o.op= .ok v/\U'=U)\/(∃p,xB P o.dst e U o.op= .dW p v/\p/\U'=U)\/(3<=zQ q i o/\(xB P o.dst e U o.op= .st v U'\/ ∃p,xB P o.dst e U o.op= .cE p v U'/\p)))->
      eC nt o.dst v (nj P c nt n0 ops q (i+1) os K) e U'-> ∃tr,mc P c nt n0 ops q i (o::os) e U tr/\K (fE (λ_=>true) i (o::os) tr e) (fS (λ_=>true) q i (o::os) tr U):=by
     intro v U' h2 h3 hlen hf hp
     obtain⟨hd,hk⟩:=K4 hp
     refine go v U' ⟨hd,h2,h3,hlen,true,ab, ?_⟩ hk
     grind
    cases hr:xB P o.dst e U o.op with
    |all f=>rw[hr]at ad;trivial
    |any l=>rw[hr]at ad;trivial
    |fail=>rw[hr]at hv;trivial
    |ok v=>rw[hr]at hv;exact done v U sm (λ_=>fY.refl) om (by grind) hv
    |dW p v=>rw[hr]at hv;exact done v U sm (λ_=>fY.refl) om (.inr (.inl ⟨p,hr,hv.1,rfl⟩)) hv.2
    |st v U'=>
     rw[hr]at hv aa
     have h3:=ae (by rw[hr];rfl)
     exact done v U' om aa.2 aa.1 (by grind) hv
    |cE p v U'=>
     rw[hr]at hv aa
     have h3:=ae (by rw[hr];rfl)
     exact done v U' om aa.2 aa.1 (.inr (.inr ⟨h3,.inr ⟨p,hr,hv.1⟩⟩)) hv.2
  have no:(∃j want t,o.guard=some (j,want)/\jF ops j=some t/\((∃b,e t= .bool b/\b≠want)\/e t= .cm []))->eC nt o.dst (.cm []) (nj P c nt n0 ops q (i+1) os K) e U->
    ∃tr,mc P c nt n0 ops q i (o::os) e U tr/\K (fE (λ_=>true) i (o::os) tr e) (fS (λ_=>true) q i (o::os) tr U):=by
   rintro⟨j,want,t,hg,h1,h2⟩ hv
   obtain⟨hd,hk⟩:=K4 hv
   refine go (.cm []) U ⟨hd,λ_=>rfl,λ_=>fY.refl,om,false, ?_, ?_⟩ hk
   all_goals grind
  unfold nj rb at h
  split at h
  .grind
  .rename_i j want hg
   split at h
   .rename_i t ht
    unfold jZ at h
    split at h
    .rename_i b hb
     by_cases ah:b=want
     .grind
     .exact no (by grind) (h.2 ah)
    .rename_i hb
     exact no (by grind) h
    grind
   grind
def nk (P:Program) (c:Ctx) (nt:Nat) (n0:Kp) (ops:List Oper) (q:List (Nat×Nat)) (i:Nat) (l:List Oper) (K:KT) (_:Fx ops) (_:Fx l) (_:Fx K) (e:Env) (U:St):Prop:=nj P c nt n0 ops q i l K e U
def dX (P:Program) (c:Ctx) (nt:Nat) (n0:Kp) (k:Nat) (d:Option Tmp) (op:Op) (K:KT) (_:Fx op) (_:Fx K) (e:Env) (U:St):Prop:=ft P c nt n0 k d op K e U
def pz (P:Program) (c:Ctx) (n0:Kp) (k:Nat) (fv:V) (az:List V) (U:St) (K:V->St->Prop) (_:Fx K):Prop:=
 ∃v U',(if k=0 then∀s,VC P c fv az s (λr s'=>r=v/\s'=s)else if k=1 then∀s,n0.of s=n0.of U->VC P c fv az s (λr s'=>r=v/\s'=s)else VC P c fv az U (λr s=>r=v/\s=U'))/\(k<3->U'=U)/\(k=3->fY n0 U U')/\U.length<=U'.length/\K v U'
theorem yV {id:Nat} {Q:QT} {e:Env} {U:St} (q:List (Nat×Nat)) (n0:Nat) (hn:U.length=n0) (hm:P.follows .mixedOrders) (hd:(ta ops q&&xT ops)) (h:nk P c nt (Kp.pre n0) ops q 0 ops (Q .normal) fx fx fx e U):fw P c nt (.region id ops.toArray true) Q fx fx e U:=by
 simp only[A6]at hd
 obtain⟨tr,ht,hK⟩:=rG ops 0 (Q .normal) e U h
 exact VW.draw (n0:=Kp.pre n0) hm (by grind) hd.1 hd.2 ht hK
def K5 (q:List (Nat×Nat)) (i:Nat) (op:Op):Nat:=match q.find? (·.1==i)with|some p=>min p.2 4|none=>lk op
variable {e:Env} {U:St} {K:KT} {Q:QT} {d:Option Tmp} {k:Nat}
@[go_sem] theorem Ik:nk P c nt n0 ops q i [] K fx fx fx e U=K e U:=id rfl
@[go_sem] theorem FU {rest:List Oper} {ty:TypeId} {pos:String} {dG:Array Edge}:nk P c nt n0 ops q i (⟨d,op,ty,pos,dG,none⟩::rest) K fx fx fx e U=
  dX P c nt n0 (K5 q i op) d op (nk P c nt n0 ops q (i+1) rest K fx fx fx) fx fx e U:=id rfl
@[go_sem] theorem Ek {rest:List Oper} {ty:TypeId} {pos:String} {dG:Array Edge} {j:Nat} {want:Bool}:nk P c nt n0 ops q i (⟨d,op,ty,pos,dG,some (j,want)⟩::rest) K fx fx fx e U=
  zq (rv ops fx j) want e (dX P c nt n0 (K5 q i op) d op (nk P c nt n0 ops q (i+1) rest K fx fx fx) fx fx e U) (il nt d (.cm []) (nk P c nt n0 ops q (i+1) rest K fx fx fx) fx e U) fx fx:=id rfl
attribute [go_sem] K5 AL
theorem El (op:Op) (h:lk op<3):px (bX P e U op)=false:=by
 cases op with
 |call cl=>
  obtain⟨aa,⟨args⟩,ts⟩:=cl
  cases aa with
  |builtin b=>
   cases b
   case len=>simp only[bX];split<;>first|rfl|(rename_i heq;simp at heq;done)|(unfold vH;(repeat' split)<;>rfl)
   case min=>simp only[bX];unfold pc;(repeat' split)<;>rfl
   case max=>simp only[bX];unfold pc;(repeat' split)<;>rfl
   all_goals trivial
  |_=>rfl
 |slice t x lo hi mx=>cases lo<;>cases hi<;>cases mx<;>simp only[bX]<;>first|rfl|(unfold qV;(repeat' split)<;>rfl)|(unfold vK;(repeat' split)<;>rfl)
 |move x=>rfl
 |assign x=>rfl
 |pick x y z=>simp only[bX];unfold vC;(repeat' split)<;>rfl
 |build t ps=>simp only[bX];unfold vI;(repeat' split)<;>rfl
 |buildSlice t n ps=>simp only[bX];unfold ub;(repeat' split)<;>rfl
 |nilCheck x=>simp only[bX];unfold vD;(repeat' split)<;>rfl
 |binOp o t x y t'=>simp only[bX];unfold tU Fl vU na zd ze;(repeat' split)<;>rfl
 |unOp o t x=>simp only[bX];unfold mw;(repeat' split)<;>rfl
 |convert t t' x=>simp only[bX];unfold uc;(repeat' split)<;>rfl
 |fieldAddr t x f=>simp only[bX];unfold vF;(repeat' split)<;>rfl
 |field t x f=>simp only[bX];unfold vL;(repeat' split)<;>rfl
 |indexAddr t x i=>simp only[bX];unfold tY;(repeat' split)<;>rfl
 |index t x i=>simp only[bX];unfold tZ;(repeat' split)<;>rfl
 |extract x i=>simp only[bX];unfold vE;(repeat' split)<;>rfl
 |makeFunc fn l m=>simp only[bX];unfold vM;(repeat' split)<;>rfl
 |load t x=>simp only[bX];unfold my;(repeat' split)<;>first|rfl|(unfold p7;(repeat' split)<;>rfl)
 |_=>first|(simp[lk]at h;done)|rfl
theorem uC (op:Op) (h: ∀o t x y t',op≠ .binOp o t x y t'):xn (bX P e U op)=false:=by
 cases op with
 |call cl=>
  obtain⟨aa,⟨args⟩,ts⟩:=cl
  cases aa with
  |builtin b=>
   cases b
   case len=>simp only[bX];split<;>first|rfl|(rename_i heq;simp at heq;done)|(unfold vH;(repeat' split)<;>rfl)
   case append=>simp only[bX];split<;>first|rfl|(rename_i heq;simp at heq;done)|(unfold yS;(repeat' split)<;>rfl)
   case clear=>simp only[bX];split<;>first|rfl|(rename_i heq;simp at heq;done)|(unfold uf;(repeat' split)<;>rfl)
   case delete=>simp only[bX];split<;>first|rfl|(rename_i heq;simp at heq;done)|(unfold vT;(repeat' split)<;>rfl)
   case min=>simp only[bX];unfold pc;(repeat' split)<;>rfl
   case max=>simp only[bX];unfold pc;(repeat' split)<;>rfl
   all_goals rfl
  |_=>rfl
 |slice t x lo hi mx=>cases lo<;>cases hi<;>cases mx<;>simp only[bX]<;>first|rfl|(unfold qV;(repeat' split)<;>rfl)|(unfold vK;(repeat' split)<;>rfl)
 |pick x y z=>simp only[bX];unfold vC;(repeat' split)<;>rfl
 |alloc t=>simp only[bX];unfold pa;(repeat' split)<;>rfl
 |box t x=>simp only[bX];unfold tX;(repeat' split)<;>rfl
 |store t x y=>simp only[bX];unfold tW;(repeat' split)<;>rfl
 |makeSlice t l m=>simp only[bX];unfold ud;(repeat' split)<;>rfl
 |build t ps=>simp only[bX];unfold vI;(repeat' split)<;>rfl
 |buildSlice t n ps=>simp only[bX];unfold ub;(repeat' split)<;>rfl
 |nilCheck x=>simp only[bX];unfold vD;(repeat' split)<;>rfl
 |binOp o t x y t'=>grind
 |unOp o t x=>simp only[bX];unfold mw;(repeat' split)<;>rfl
 |convert t t' x=>simp only[bX];unfold uc;(repeat' split)<;>rfl
 |fieldAddr t x f=>simp only[bX];unfold vF;(repeat' split)<;>rfl
 |field t x f=>simp only[bX];unfold vL;(repeat' split)<;>rfl
 |indexAddr t x i=>simp only[bX];unfold tY;(repeat' split)<;>rfl
 |index t x i=>simp only[bX];unfold tZ;(repeat' split)<;>rfl
 |extract x i=>simp only[bX];unfold vE;(repeat' split)<;>rfl
 |makeFunc fn l m=>simp only[bX];unfold vM;(repeat' split)<;>rfl
 |load t x=>simp only[bX];unfold my;(repeat' split)<;>first|rfl|(unfold p7;(repeat' split)<;>rfl)
 |makeMap t r=>simp only[bX];unfold vR;(repeat' split)<;>rfl
 |lookup t x k ok=>simp only[bX];unfold xV;(repeat' split)<;>rfl
 |mapUpdate t x k v=>simp only[bX];unfold xP;(repeat' split)<;>rfl
 |insert t x k v=>simp only[bX];unfold xP;(repeat' split)<;>rfl
 |range t x=>simp only[bX];unfold vV;(repeat' split)<;>rfl
 |entry x=>simp only[bX];unfold pg;(repeat' split)<;>rfl
 |makeInterface t x=>simp only[bX];unfold vX;(repeat' split)<;>rfl
 |mapEntry t x k=>simp only[bX];unfold wA;(repeat' split)<;>rfl
 |entryStore t x k v=>simp only[bX];unfold xL;(repeat' split)<;>rfl
 |next x b=>cases b<;>simp only[bX]<;>first|rfl|(unfold mB;(repeat' split)<;>first|rfl|contradiction)
 |_=>rfl
theorem xo {r:R} (h:px r=false):jj n0 k U r:=by
 cases r<;>first|trivial|cases h
theorem rH (hA: ∀o t x y t',op≠ .binOp o t x y t') (hL: ∀e U,gE P e U op=bX P e U op) (h:lk op=0) (hc: ∀f az ts,op≠ .call ⟨.value f,az,ts⟩):dX P c nt n0 0 d op K fx fx e U=dU P c nt d op K fx fx e U:=by
 show ft P c nt n0 0 d op K e U=ik P c nt d op K e U
 have hh:cH P d e op:= .inr hL
 unfold ft ik
 split
 .grind
 .have:=El (P:=P) (e:=e) (U:=U) op om
  split
  .grind
  grind[xo,pv,uC]
theorem K6 (hA: ∀o t x y t',op≠ .binOp o t x y t') (h:lk op=0) (hc: ∀f az ts,op≠ .call ⟨.value f,az,ts⟩):dX P c nt n0 0 d op K fx fx e U=ru (cH P d e op) (dU P c nt d op K fx fx e U) fx:=by
 show ft P c nt n0 0 d op K e U=(cH P d e op/\ik P c nt d op K e U)
 by_cases hh:cH P d e op
 .unfold ft ik
  split
  .grind
  .have:=El (P:=P) (e:=e) (U:=U) op om
   split
   .grind
   grind[xo,pv,uC]
 .unfold ft
  grind
@[go_sem] theorem Px (h:wP e d=false):cH P d e op=True:=by grind[cH]
theorem K7:cH P d e (.load t x):= .inr λ_ _=>rfl
theorem WG:dX P c nt n0 1 d (.load t x) K fx fx e U=ru (AL n0 (zF e x)=true) (dU P c nt d (.load t x) K fx fx e U) fx:=by
 show ft P c nt n0 1 d (.load t x) K e U=(_/\ik P c nt d (.load t x) K e U)
 have:=El (P:=P) (e:=e) (U:=U) (.load t x) (show 1<3 by omega)
 have h2:jj n0 1 U (bX P e U (.load t x)):=xo this
 have hA:=uC (P:=P) (e:=e) (U:=U) (.load t x) (λ_ _ _ _ _ h=>by cases h)
 simp only[ft,ik,this,h2,pv K7,hA]
 refine propext ⟨λh=> ?_,λh=> ?_⟩
 .grind
 .exact⟨λ_=>K7,tV,om,(by grind),sm,tV,h.2⟩
theorem WH:dX P c nt n0 2 d (.load t x) K fx fx e U=dU P c nt d (.load t x) K fx fx e U:=by
 show ft P c nt n0 2 d (.load t x) K e U=ik P c nt d (.load t x) K e U
 have:=El (P:=P) (e:=e) (U:=U) (.load t x) (show 1<3 by omega)
 grind[xo,uC,ft,ik,pv,K7]
theorem K8:jj n0 4 U (bX P e U op):=by
 by_cases h:lk op<3
 .grind[xo,El]
 .cases op with
  |alloc t=>simp only[bX];unfold pa;(repeat' split)<;>first|trivial|exact⟨sm,om⟩
  |box t x=>simp only[bX];unfold tX;(repeat' split)<;>first|trivial|exact⟨sm,om⟩
  |store t x y=>simp only[bX];unfold tW;(repeat' split)<;>first|trivial|exact⟨sm,om⟩
  |makeSlice t l m=>simp only[bX];unfold ud;(repeat' split)<;>first|trivial|exact⟨sm,om⟩
  |makeMap t r=>simp only[bX];unfold vR;(repeat' split)<;>first|trivial|exact⟨sm,om⟩
  |lookup t x k ok=>simp only[bX];unfold xV;(repeat' split)<;>trivial
  |mapUpdate t x k v=>simp only[bX];unfold xP;(repeat' split)<;>first|trivial|exact⟨sm,om⟩
  |insert t x k v=>simp only[bX];unfold xP;(repeat' split)<;>first|trivial|exact⟨sm,om⟩
  |range t x=>simp only[bX];unfold vV;(repeat' split)<;>first|trivial|exact⟨sm,om⟩
  |entry x=>simp only[bX];unfold pg;(repeat' split)<;>trivial
  |makeInterface t x=>simp only[bX];unfold vX;(repeat' split)<;>trivial
  |mapEntry t x k=>simp only[bX];unfold wA;(repeat' split)<;>first|trivial|exact⟨sm,om⟩
  |entryStore t x s v=>simp only[bX];unfold xL;(repeat' split)<;>first|trivial|exact⟨sm,om⟩
  |next x b=>cases b<;>simp only[bX]<;>first|trivial|(unfold mB;(repeat' split)<;>first|trivial|exact⟨sm,om⟩)
  |call cl=>
   obtain⟨aa,⟨args⟩,ts⟩:=cl
   cases aa with
   |builtin b=>
    cases b
    case append=>simp only[bX];split<;>first|trivial|(rename_i heq;simp at heq;done)|(unfold yS;(repeat' split)<;>first|trivial|exact⟨sm,om⟩)
    case clear=>simp only[bX];split<;>first|trivial|(rename_i heq;simp at heq;done)|(unfold uf;(repeat' split)<;>first|trivial|exact⟨sm,om⟩)
    case delete=>simp only[bX];split<;>first|trivial|(rename_i heq;simp at heq;done)|(unfold vT;(repeat' split)<;>first|trivial|exact⟨sm,om⟩)
    all_goals first|(simp[lk]at h;done)|trivial
   |_=>trivial
  |slice t x lo hi mx=>grind[lk]
  |_=>first|(simp[lk]at h;done)|trivial
theorem Py (op:Op) (hA: ∀o t x y t',op≠ .binOp o t x y t') (hN: ∀x b,op≠ .next x b):xn (gE P e U op)=false:=by
 have h:=uC (P:=P) (e:=e) (U:=U) op hA
 cases op with
 |buildSlice t n ps=>simp only[gE];unfold ug;(repeat' split)<;>rfl
 |makeSlice t l m=>simp only[gE];unfold ue;(repeat' split)<;>rfl
 |convert t t' x=>simp only[gE];unfold vN;(repeat' split)<;>rfl
 |slice t x lo hi mx=>
  cases lo with
  |none=>exact h
  |some lo=>cases hi with
   |some _=>exact h
   |none=>cases mx with
    |some _=>exact h
    |none=>simp only[gE];unfold vJ;(repeat' split)<;>rfl
 |next x b=>grind
 |call cl=>
  obtain⟨aa,⟨args⟩,ts⟩:=cl
  cases aa with
  |builtin b=>
   cases b
   case append=>simp only[gE];split<;>first|exact h|(rename_i heq;simp at heq;done)|(unfold qT;(repeat' split)<;>rfl)
   all_goals simpa
  |_=>exact h
 |_=>exact h
theorem WI:jj n0 4 U (gE P e U op):=by
 have h:jj n0 4 U (bX P e U op):=K8
 cases op with
 |buildSlice t n ps=>simp only[gE];unfold ug;(repeat' split)<;>first|trivial|exact⟨sm,om⟩
 |makeSlice t l m=>simp only[gE];unfold ue;(repeat' split)<;>first|trivial|exact⟨sm,om⟩
 |convert t t' x=>simp only[gE];unfold vN;(repeat' split)<;>first|trivial|exact⟨sm,om⟩
 |slice t x lo hi mx=>
  cases lo with
  |none=>exact h
  |some lo=>cases hi with
   |some _=>exact h
   |none=>cases mx with
    |some _=>exact h
    |none=>simp only[gE];unfold vJ;(repeat' split)<;>first|trivial|exact⟨sm,om⟩
 |next x b=>cases b<;>simp only[gE]<;>first|exact h|(unfold mB;(repeat' split)<;>first|trivial|exact⟨sm,om⟩)
 |call cl=>
  obtain⟨aa,⟨args⟩,ts⟩:=cl
  cases aa with
  |builtin b=>
   cases b
   case append=>simp only[gE];split<;>first|exact h|(rename_i heq;simp at heq;done)|(unfold qT;(repeat' split)<;>first|trivial|exact⟨sm,om⟩)
   all_goals simpa
  |_=>exact h
 |_=>exact h
theorem K9 (hA: ∀o t x y t',op≠ .binOp o t x y t') (hN: ∀x b,op≠ .next x b) (hc: ∀f az ts,op≠ .call ⟨.value f,az,ts⟩):dX P c nt n0 4 d op K fx fx e U=dU P c nt d op K fx fx e U:=by
 show ft P c nt n0 4 d op K e U=ik P c nt d op K e U
 have h1:xn (xB P d e U op)=false:=by
  grind[xB,Py,uC]
 have h2:jj n0 4 U (xB P d e U op):=by
  grind[xB,WI,K8]
 unfold ft ik
 grind
theorem Il (hA: ∀o t x y t',op≠ .binOp o t x y t') (hN: ∀x b,op≠ .next x b) (_: ∀e U,gE P e U op=bX P e U op) (hc: ∀f az ts,op≠ .call ⟨.value f,az,ts⟩):dX P c nt n0 4 d op K fx fx e U=dU P c nt d op K fx fx e U:=K9 hA hN hc
theorem Im (hA: ∀o t x y t',op≠ .binOp o t x y t') (hL: ∀e U,gE P e U op=bX P e U op) (h2:jj n0 3 U (bX P e U op)) (hc: ∀f az ts,op≠ .call ⟨.value f,az,ts⟩):dX P c nt n0 3 d op K fx fx e U=dU P c nt d op K fx fx e U:=by
 show ft P c nt n0 3 d op K e U=ik P c nt d op K e U
 have hh:cH P d e op:= .inr hL
 unfold ft ik
 split
 .grind
 .split
  .grind
  grind[pv,uC]
def Kp.out (k:Kp) (id:Nat):Bool:=(decide (id<k.x)&&k.ob.isNone)||decide (k.n<=id)
@[go_sem] theorem Kp.Io {id:Nat}:(Kp.mk 0 n [] none).out id=decide (n<=id):=by rfl
@[go_sem] theorem Kp.Ip {x id:Nat}:(Kp.mk (x+1) n [] none).out id=(decide (id<x+1)||decide (n<=id)):=by simp[Kp.out]
def wX (n0:Kp):V->Bool
 | .ptr id _=>n0.out id
 | .iE id _ _ _ _=>n0.out id
 |_=>false
attribute [go_sem] wX
@[go_sem] theorem xp (h:wX n0 (zF e x)):dX P c nt n0 3 d (.store t x y) K fx fx e U=dU P c nt d (.store t x y) K fx fx e U:=
 Im sm (λ_ _=>rfl) (by
  simp only[bX]
  unfold tW
  split
  .rename_i id off hx
   rw[hx]at h
   have h:n0.out id:=h
   simp only[Kp.out,Bg,A6,Option.isNone_iff_eq_none,afe]at h
   (repeat' split)<;>first|trivial|exact⟨sm,λ_=> .inr (Kp.im h)⟩
  .rename_i id s n k j hx
   rw[hx]at h
   have h:n0.out id:=h
   simp only[Kp.out,Bg,A6,Option.isNone_iff_eq_none,afe]at h
   (repeat' split)<;>first|trivial|exact⟨sm,λ_=> .inr (Kp.im h)⟩
  trivial) sm
@[go_sem] theorem Em:dX P c nt n0 0 d (.move x) K fx fx e U=dU P c nt d (.move x) K fx fx e U:=rH sm (λ_ _=>rfl) rfl sm
@[go_sem] theorem xq:dX P c nt n0 0 d (.assign x) K fx fx e U=dU P c nt d (.assign x) K fx fx e U:=rH sm (λ_ _=>rfl) rfl sm
@[go_sem] theorem En {z:Operand}:dX P c nt n0 0 d (.pick x y z) K fx fx e U=dU P c nt d (.pick x y z) K fx fx e U:=rH sm (λ_ _=>rfl) rfl sm
@[go_sem] theorem AM {l:Array (Nat×Operand)}:dX P c nt n0 0 d (.build t l) K fx fx e U=dU P c nt d (.build t l) K fx fx e U:=rH sm (λ_ _=>rfl) rfl sm
@[go_sem] theorem qn {l:Array (Nat×Operand)}:dX P c nt n0 0 d (.buildSlice t n l) K fx fx e U=ru (cH P d e (.buildSlice t n l)) (dU P c nt d (.buildSlice t n l) K fx fx e U) fx:=K6 sm rfl sm
@[go_sem] theorem FV:dX P c nt n0 0 d (.nilCheck x) K fx fx e U=dU P c nt d (.nilCheck x) K fx fx e U:=rH sm (λ_ _=>rfl) rfl sm
theorem WJ {op:BinOp} {t':TypeId}:dX P c nt n0 0 d (.binOp op t x y t') K fx fx e U=ru (xn (wh (oI y) (tU op (jD P t) (zF e x)) (wh (p9 y) (vU op (mA P t) (zF e x)) (na op (jD P t) (mu P t) (zF e x) (zF e y))))=false) (dU P c nt d (.binOp op t x y t') K fx fx e U) fx:=by
 show ft P c nt n0 0 d (.binOp op t x y t') K e U=(xn (bX P e U (.binOp op t x y t'))=false/\ik P c nt d (.binOp op t x y t') K e U)
 have hh:cH P d e (.binOp op t x y t'):= .inr λ_ _=>rfl
 grind[El,xo,ft,ik,pv,lk]
attribute [go_sem] WJ xn
@[go_sem] theorem Iq {op:UnOp}:dX P c nt n0 0 d (.unOp op t x) K fx fx e U=dU P c nt d (.unOp op t x) K fx fx e U:=rH sm (λ_ _=>rfl) rfl sm
@[go_sem] theorem Eo {t':TypeId}:dX P c nt n0 0 d (.convert t t' x) K fx fx e U=ru (cH P d e (.convert t t' x)) (dU P c nt d (.convert t t' x) K fx fx e U) fx:=K6 sm rfl sm
@[go_sem] theorem AN {lo hi mx:Option Operand}:dX P c nt n0 0 d (.slice t x lo hi mx) K fx fx e U=ru (cH P d e (.slice t x lo hi mx)) (dU P c nt d (.slice t x lo hi mx) K fx fx e U) fx:=K6 sm rfl sm
@[go_sem] theorem rI {f:Nat}:dX P c nt n0 0 d (.fieldAddr t x f) K fx fx e U=dU P c nt d (.fieldAddr t x f) K fx fx e U:=rH sm (λ_ _=>rfl) rfl sm
@[go_sem] theorem uD {i:Operand}:dX P c nt n0 0 d (.indexAddr t x i) K fx fx e U=dU P c nt d (.indexAddr t x i) K fx fx e U:=rH sm (λ_ _=>rfl) rfl sm
@[go_sem] theorem FW {i:Operand}:dX P c nt n0 0 d (.index t x i) K fx fx e U=dU P c nt d (.index t x i) K fx fx e U:=rH sm (λ_ _=>rfl) rfl sm
@[go_sem] theorem uE:dX P c nt n0 0 d (.extract x i) K fx fx e U=dU P c nt d (.extract x i) K fx fx e U:=rH sm (λ_ _=>rfl) rfl sm
@[go_sem] theorem FX {l:Array Operand}:dX P c nt n0 0 d (.call ⟨.builtin .len,l,ts⟩) K fx fx e U=dU P c nt d (.call ⟨.builtin .len,l,ts⟩) K fx fx e U:=rH sm (λ_ _=>rfl) rfl sm
@[go_sem] theorem AO:dX P c nt n0 4 d (.store t x y) K fx fx e U=dU P c nt d (.store t x y) K fx fx e U:=Il sm sm (λ_ _=>rfl) sm
@[go_sem] theorem xt {l:Array Operand}:dX P c nt n0 4 d (.call ⟨.builtin .append,l,ts⟩) K fx fx e U=dU P c nt d (.call ⟨.builtin .append,l,ts⟩) K fx fx e U:=(by simp[K9])
@[go_sem] theorem AP:dX P c nt n0 3 d (.alloc t) K fx fx e U=dU P c nt d (.alloc t) K fx fx e U:=Im sm (λ_ _=>rfl) (by
 simp only[bX];unfold pa;split<;>first|trivial|exact⟨sm,λ_=> .inl ⟨_,rfl⟩⟩) sm
attribute [go_sem] WG WH
@[go_sem] theorem Ep {f:Operand} {l:List Operand}:dX P c nt n0 k d (.call ⟨.value f,l.toArray,ts⟩) K fx fx e U=pz P c n0 k (zF e f) (l.map (zF e)) U (KU nt d K fx e) fx:=id rfl
attribute [go_sem] lk
theorem qo {args:List V} {v:V} (hc:Pure P f bZ v) (hb:wE P f) (aa: ∀N,bL (cF (cz [] N)) bZ (args++bU)) (hn:gR v) (hk:KV v U):
  pz P c n0 0 (.fn f bU) args U KV fx:=by
 refine⟨v,U, ?_,λ_=>rfl,om,om,hk⟩
 rw[afb rfl]
 exact λs=>zM (P:=P) (c:=c) (KV:=λr s'=>r=v/\s'=s) hc hb (aa _) hn sm
theorem Ir {cT:afF} {U:St}:(xQ cT U s1).length=U.length+(s1.length - cT.length):=by
 grind[xQ,ng]
theorem Pz {args:List V} {gi:St} {v:V} (hc:bK P f bZ gi (λr s=>r=v/\s=s1)) (hb:wE P f) (cT:afF) (ab:cT.Nodup) (hlen:gi.length=cT.length)
  (ad: ∀(i j:Nat) (o:Ob),cT[i]? =some j->gi[i]? =some o->U[j]? =some (yF (cz cT U.length) o)) (aa:bL (cF (cz cT U.length)) bZ (args++bU))
  (hk:KV (dy (cz cT U.length) v) (xQ cT U s1)):pz P c n0 4 (.fn f bU) args U KV fx:=by
 refine⟨_,_, ?_,om,om,by grind[Ir],hk⟩
 rw[afa dc,afa dc]
 refine VC.of hc hb cT ab hlen ad aa ?_
 simp
theorem PA {args:List V} {gi:St} {v:V} (hc:bK P f bZ gi (λr s=>r=v/\s=s1)) (hb:wE P f) (cT:afF) (ab:cT.Nodup) (hlen:gi.length=cT.length)
  (ad: ∀(i j:Nat) (o:Ob),cT[i]? =some j->gi[i]? =some o->U[j]? =some (yF (cz cT U.length) o)) (aa:bL (cF (cz cT U.length)) bZ (args++bU)) (ae:fY n0 U (xQ cT U s1))
  (hk:KV (dy (cz cT U.length) v) (xQ cT U s1)):pz P c n0 3 (.fn f bU) args U KV fx:=by
 refine⟨_,_, ?_,om,(by grind),by grind[Ir],hk⟩
 rw[afa dc,afa dc]
 refine VC.of hc hb cT ab hlen ad aa ?_
 simp
theorem WK {args:List V} {v:V} (hc:Pure P f bZ v) (hb:wE P f) (hf: ∀s,n0.of s=n0.of U-> ∃aa U1,nh (args++bU) s aa U1/\bL (cF (cz [] U1.length)) bZ aa)
  (ab:FA v) (hk:KV v U):pz P c n0 1 (.fn f bU) args U KV fx:=by
 refine⟨v,U, ?_,λ_=>rfl,om,om,hk⟩
 rw[afa dc,afb rfl]
 intro s hs
 obtain⟨aa,U1,h1,h2⟩:=hf s hs
 exact VC.view hc hb h1 h2 (by grind) sm
end
def At (n0:Nat) (keep:afF) (vs:List V) (s:St) (e:Env) (U:St):Prop:=
 ∃pick,eM n0 pick U s/\bL (cF (cz pick U.length)) vs (keep.map e)
def Next {S:Type} (p:S->Prop) (_:Fx p):Prop:= ∃s,p s
theorem zG {S:Type} {p:S->Prop} (s:S) (h:p s):Next p fx:=⟨s,h⟩
section
variable {P:Program} {c:Ctx} {nt:Nat} {e:Env} {U:St} {a:Act} {w:World} {L:Nat->Nat} {I:afG} {Q:QT} {n0:Nat}
variable {keep:afF}{y:Code}{f:FuncId}{code:Code}{x:Code}{fn:Func}{rs:List ResultVar}{bU:List V}{bZ:List V}{KV:V->St->Prop}
theorem zA (h:ni P c nt code Q fx fx e U):fw P c nt code Q fx fx e U:=qh code Q e U h
theorem Is {K:KT} (h:fw P c nt x (v7 K Q fx fx) fx fx e U) (hy: ∀e' U',K e' U'->fw P c nt y Q fx fx e' U'):fw P c nt (.seq x y) Q fx fx e U:=by
 intro a w L I hs
 refine wp_seq (wp_mono (h a w L I hs) λex a' w' q=> ?_)
 cases ex with
 |normal=>obtain⟨e',U',L',I',aa,hq⟩:=q;exact hy e' U' hq a' w' L' I' aa
 |exit id=>exact q
 |goto l=>exact q
 |ret=>exact q
 |panic ch=>exact q
 |outgrown=>exact q
theorem zO (h:fw P c nt x (v7 (fw P c nt y Q fx fx) Q fx fx) fx fx e U):fw P c nt (.seq x y) Q fx fx e U:=(by grind[Is])
theorem qp {id:Nat} {b:Code} (h:fw P c nt b (pt id Q fx) fx fx e U):fw P c nt (.block id b) Q fx fx e U:=by
 intro a w L I hs
 refine wp_block (wp_mono (h a w L I hs) λex a' w' q=> ?_)
 cases ex with
 |exit aa=>
  obtain⟨e',U',L',I',ab,hq⟩:=q
  change (if aa=id then Q .normal e' U' else Q (.exit aa) e' U')at hq
  change (if aa=id then dH c nt Q .normal a' w' else dH c nt Q (.exit aa) a' w')
  split
  .rename_i hid
   rw[afb hid]at hq
   exact⟨e',U',L',I',ab,hq⟩
  .rename_i hid
   rw[afa hid]at hq
   exact⟨e',U',L',I',ab,hq⟩
 |normal=>exact q
 |goto l=>exact q
 |ret=>exact q
 |panic ch=>exact q
 |outgrown=>exact q
theorem It {b:Bool} {x:Operand} {t f:Code} (hx:zF e x= .bool b) (ht:b=true->fw P c nt t Q fx fx e U) (hf:b=false->fw P c nt f Q fx fx e U):fw P c nt (.cond x t f) Q fx fx e U:=by
 intro a w L I hs
 have hv:=hs.eval x
 rw[hx]at hv
 exact wp_cond_split (oH hv) (λh=>ht h a w L I hs) (λh=>hf h a w L I hs)
theorem WL {vs:List V} {s:St} (hn:c.bT.length=n0) (hc:c.β0.length=c.bT.length) (hk:At n0 keep vs s e U) (hy:fw P c nt y Q fx fx (kM (keep.zip vs)) s):fw P c nt y Q fx fx e U:=by
 intro a w L I hs
 subst hn
 obtain⟨pick,hp,aa⟩:=hk
 obtain⟨gp,s',I',⟨rfl,rfl⟩,_,ab⟩:=HT (Inv:=λgp s' _=>gp=vs/\s'=s) (m:=0) hs hc ⟨vs,s,pick,hp,aa,rfl,rfl⟩
 exact hy a w L I' ab
theorem nM {S:Type} (keep:afF) (aa:S->List V) (ab:S->St) (uI:S->Prop) (hn:c.bT.length=n0) (hc:c.β0.length=c.bT.length)
  (hx:fw P c nt x (v7 (λe' U'=>Next (λs=>uI s/\At n0 keep (aa s) (ab s) e' U') fx) Q fx fx) fx fx e U)
  (hy: ∀s,uI s->fw P c nt y Q fx fx (kM (keep.zip (aa s))) (ab s)):fw P c nt (.seq x y) Q fx fx e U:=
 Is hx λ_ _ ⟨s,hI,ad⟩=>(by grind[WL])
theorem zH {body:Code} {S:Type} (keep:afF) (aa:S->List V) (ad:S->St) (ab:S->Nat) (uI:S->Prop) (hn:c.bT.length=n0) (hc:c.β0.length=c.bT.length)
  (s0:S) (hI:uI s0) (h0:At n0 keep (aa s0) (ad s0) e U)
  (hr: ∀s,uI s->fw P c nt body (v7 (λe' U'=>Next (λs'=>ab s'<ab s/\uI s'/\At n0 keep (aa s') (ad s') e' U') fx) Q fx fx) fx fx (kM (keep.zip (aa s))) (ad s)):fw P c nt (.loop body) Q fx fx e U:=by
 subst hn
 intro a w L I hs
 refine Po (λm a w=> ∃s L I,m=ab s/\uI s/\dp c nt (kM (keep.zip (aa s))) (ad s) a w L I) (ab s0) ?_ ?_
 .obtain⟨pick,hp,ae⟩:=h0
  obtain⟨gp,s',I',⟨rfl,rfl⟩,_,af⟩:=HT (Inv:=λgp s' _=>gp=aa s0/\s'=ad s0) (m:=0) hs hc ⟨_,_,pick,hp,ae,rfl,rfl⟩
  grind
 .rintro m a w ⟨s,L,I,rfl,ag,hs⟩
  refine wp_mono (hr s ag a w L I hs) λx a' w' q=> ?_
  cases x with
  |normal=>
   obtain⟨e',U',L',I',af,s',ah,ai,pick,hp,ae⟩:=q
   obtain⟨gp,s2,I2,⟨rfl,rfl⟩,_,aj⟩:=HT (Inv:=λgp s2 _=>gp=aa s'/\s2=ad s') (m:=0) af hc ⟨_,_,pick,hp,ae,rfl,rfl⟩
   exact⟨ab s',ah,s',L',I2,rfl,ai,aj⟩
  |exit id=>exact q
  |goto l=>exact q
  |ret=>exact q
  |panic ch=>exact q
  |outgrown=>exact q
theorem zN {ρ:Nat->Nat} {l m:List V} (h:l=m) (hn:l.all gR):bL (cF ρ) l m:=by grind[zZ]
theorem oJ {n N:Nat}: ∀{l:List V},l.all (fW n)=true->bL (cF (cz (List.range n) N)) l l
 | [],_=>trivial
 |v::l,h=>by
  simp only[Aq,A6]at h
  exact⟨s8 h.1,oJ h.2⟩
theorem zD {n N:Nat} {l m:List V} (h:l=m) (hn:l.all (fW n)):bL (cF (cz (List.range n) N)) l m:=by grind[oJ]
theorem gV {vs:List V} {PB:Nat} (hN:U.length=PB) (h:bL (cF (cz [] PB)) vs (keep.map e)):At 0 keep vs [] e U:=by
 subst hN
 exact⟨[],⟨rfl,Ca,sm,om⟩,h⟩
theorem ca (k:Nat) {vs:List V} {s:St} (hs:U.take k=s) (hk:s.length=k) (cH:s.all (bP k)) (hn:n0<=k) (h:bL (cF (cz (List.range k) U.length)) vs (keep.map e)):At n0 keep vs s e U:=by
 subst hs
 have h1:U.take k++U.drop k=U:=sm
 have hp:=Ps (n0:=n0) (s:=U.take k) (loc:=U.drop k) (by rw[hk];exact cH) (by rw[hk];exact hn)
 rw[h1,hk]at hp
 exact⟨_,hp,h⟩
theorem AQ (pick:afF) {vs:List V} {s:St} (ab:pick.Nodup) (hn:n0=0) (aa:bL (λo j=>U[j]? =some (yF (cz pick U.length) o)) s pick) (h:bL (cF (cz pick U.length)) vs (keep.map e)):At n0 keep vs s e U:=by
 subst hn
 refine⟨pick,⟨aa.length,ab,λi j o hi ho=> ?_,om⟩,h⟩
 obtain⟨j',ad,hr⟩:=aa.get i o ho
 grind
theorem bK.jk {nt:Nat} {args:List V} {R:V->St->Prop} (n0:Nat) (hf:P.funcs[f]? =some fn) (aa:fn.ntmps=nt) (ab:fn.results=rs.toArray) (hb:fn.body=some code) (h0:U.length=n0) (ad:args.length<=nt)
  (h: ∀c:Ctx,c.bT.length=n0->c.β0.length=c.bT.length->fw P c nt code (lB P rs n0 R) fx fx (jH 0 args) U):bK P f args U R:=bK.nI n0 hf aa ab hb h0 ad h
theorem AR (t:Nat) (hn:nt<=100000) (hy:fw P c nt y Q fx fx (dK e (100000+t) (.cm [])) U):fw P c nt y Q fx fx e U:=by
 intro a w L I hs
 refine hy a w L I ⟨hs.mem,hs.size,hs.defs,λk=> ?_⟩
 simp only[dK]
 split
 .rename_i hk
  subst hk
  refine⟨[], ?_,tV⟩
  have: ¬(100000+t<a.tmps.size):=by rw[hs.size];omega
  simp[Array.getD,this,undef]
 .exact hs.env k
theorem tc (id s:Nat) (rows:List (List V)) (cv:U[id]? =some (.cc rows s)) (hp:wF rows) (hy:fw P c nt y Q fx fx (λt=>fB id rows (e t)) (lj id rows U)):fw P c nt y Q fx fx e U:=by
 intro a w L I hs
 obtain⟨h1,h2,h3,h4⟩:=Pb hs.mem cv hp
 exact hy a w _ I ⟨h1,hs.size,hs.defs,λt=>h4 _ _ (hs.env t)⟩
theorem WM {args ab:List V} {v:V} {U1:St} (hc:Pure P f bZ v) (hb:wE P f) (hf:nh (args++bU) U ab U1)
  (aa:bL (cF (cz [] U1.length)) bZ ab) (ad:FA v) (hk:KV v U):iZ P c (.fn f bU) args U KV fx:=
 VC.view hc hb hf aa (by grind) (by grind)
attribute [go_sem] fB jh jg iI uh lj
attribute [go_sem] Dr List.zip_nil_left List.zip_nil_right
theorem iV {nt:Nat} {args:List V} {R:V->St->Prop} (n0:Nat) (hf:P.funcs[f]? =some fn) (aa:fn.ntmps=nt) (ab:fn.results=rs.toArray)
  (h: ∀c:Ctx,c.bT.length=n0->c.β0.length=c.bT.length->fw P c nt code (lB P rs n0 R) fx fx (jH 0 args) U) (hb:fn.body=some code:=by rfl) (h0:U.length=n0:=by rfl) (ad:args.length<=nt:=by exact Cb rfl):bK P f args U R:=(by simp_all[bK.jk])
theorem iW {nt:Nat} {args:List V} {R:V->St->Prop} (n0:Nat) (hf:P.funcs[f]? =some fn) (aa:fn.ntmps=nt) (ab:fn.results=rs.toArray)
  (h: ∀c:Ctx,c.bT.length=n0->c.β0.length=c.bT.length->pj P c nt code (lB P rs n0 R) (jH 0 args) U) (hb:fn.body=some code:=by rfl) (h0:U.length=n0:=by rfl) (ad:args.length<=nt:=by exact Cb rfl):bK P f args U R:=(by simp_all[bK.intro])
theorem aN (k:Nat) {vs:List V} {s:St} (cH:s.all (bP k)) (hs:U.take k=s:=by simp[go_sem]) (hk:s.length=k:=by rfl) (hn:n0<=k:=by omega) (h:vs=keep.map e:=by simp[go_sem]) (hv:vs.all (fW k)=true:=by rfl):At n0 keep vs s e U:=(by grind[ca,zD])
theorem aM (k:Nat) {vs:List V} {s:St} (cH:s.all (bP k)) (h:bL (cF (cz (List.range k) U.length)) vs (keep.map e)) (hs:U.take k=s:=by simp[go_sem]) (hk:s.length=k:=by rfl) (hn:n0<=k:=by omega):At n0 keep vs s e U:=(by grind[ca])
theorem aO {vs:List V} (h:vs=keep.map e:=by simp[go_sem]) (hv:vs.all gR=true:=by rfl):At 0 keep vs [] e U:=gV rfl (zN h hv)
theorem pC {args:List V} {v:V} (hc:Pure P f bZ v) (hk:KV v U) (aa:bL (cF (cz [] U.length)) bZ (args++bU):=by first|exact zZ rfl|exact⟨zK,zZ rfl⟩|exact⟨zK,zK,zZ rfl⟩|exact⟨zC rfl,zK,zZ rfl⟩|exact⟨zK,zK,zK,zZ rfl⟩|exact⟨zK,zC rfl,zK,zZ rfl⟩|exact⟨zC rfl,zK,zK,zZ rfl⟩|exact⟨zC rfl,zC rfl,zK,zZ rfl⟩|exact⟨zK,zK,zK,zK,zZ rfl⟩|exact⟨zK,zK,zC rfl,zK,zZ rfl⟩|exact⟨zK,zC rfl,zK,zK,zZ rfl⟩|exact⟨zK,zC rfl,zC rfl,zK,zZ rfl⟩|exact⟨zC rfl,zK,zK,zK,zZ rfl⟩|exact⟨zC rfl,zK,zC rfl,zK,zZ rfl⟩|exact⟨zC rfl,zC rfl,zK,zK,zZ rfl⟩|exact⟨zC rfl,zC rfl,zC rfl,zK,zZ rfl⟩)
  (hb:wE P f=true:=by kernel_rfl) (hn:gR v=true:=by rfl):iZ P c (.fn f bU) args U KV fx:=(by grind[zM])
theorem pD {n0:Kp} {args:List V} {v:V} (hc:Pure P f bZ v) (hk:KV v U) (aa: ∀N,bL (cF (cz [] N)) bZ (args++bU):=by first|exact λ_=>zZ rfl|exact λ_=>⟨zK,zZ rfl⟩|exact λ_=>⟨zK,zK,zZ rfl⟩|exact λ_=>⟨zC rfl,zK,zZ rfl⟩|exact λ_=>⟨zK,zK,zK,zZ rfl⟩|exact λ_=>⟨zK,zC rfl,zK,zZ rfl⟩|exact λ_=>⟨zC rfl,zK,zK,zZ rfl⟩|exact λ_=>⟨zC rfl,zC rfl,zK,zZ rfl⟩|exact λ_=>⟨zK,zK,zK,zK,zZ rfl⟩|exact λ_=>⟨zK,zK,zC rfl,zK,zZ rfl⟩|exact λ_=>⟨zK,zC rfl,zK,zK,zZ rfl⟩|exact λ_=>⟨zK,zC rfl,zC rfl,zK,zZ rfl⟩|exact λ_=>⟨zC rfl,zK,zK,zK,zZ rfl⟩|exact λ_=>⟨zC rfl,zK,zC rfl,zK,zZ rfl⟩|exact λ_=>⟨zC rfl,zC rfl,zK,zK,zZ rfl⟩|exact λ_=>⟨zC rfl,zC rfl,zC rfl,zK,zZ rfl⟩)
  (hb:wE P f=true:=by kernel_rfl) (hn:gR v=true:=by rfl):pz P c n0 0 (.fn f bU) args U KV fx:=(by grind[qo])
theorem wR {R:V->St->Prop} {v r:V} (hr:cF (cz [] U.length) r v:=by exact zC rfl) (hR:R r []:=by exact⟨rfl,rfl⟩):cj (some v) 0 R U:=yL hr hR
end
end Go.Vx
