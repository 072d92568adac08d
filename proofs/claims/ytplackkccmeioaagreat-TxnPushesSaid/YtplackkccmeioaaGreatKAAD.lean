/-
  Walks with cuts: a statement's end held by the slots that are read later, what follows proved once.
  No condition: a library text; nothing of the program is named.
-/
import Derived.Test.YtplackkccmeioaaGreatKAAC
import Derived.Orders
set_option maxHeartbeats 8000000
namespace Go.Vx
open Go
section
variable {P:Program} {c:Ctx} {nt:Nat} {e:Env} {I:St} {a:Act} {w:World} {L:Nat->Nat} {J:aiC}
variable {fn:Func}{code:Code}
def j7:Nat->List V->Env
 |_,[]=>oJ
 |i,v::vs=>fu (j7 (i+1) vs) i v
theorem Mo: ∀(vs:List V) (i t:Nat),j7 i vs (i+t)=vs.getD t .u
 | [],_,_=>by rfl
 |v::vs,i,0=>by simp[j7,fu]
 |v::vs,i,t+1=>by
  simp only[j7,fu]
  rw[ai1 om]
  have:=Mo vs (i+1) t
  grind
def EU (P:Program) (e:Env) (I:St):ResultVar->Option V
 | .tmp t=>some (e t)
 | .cell t T=>(match nf P T I (e t)with| .ok v=>some v|_=>none)
def BX (P:Program) (e:Env) (I:St):List ResultVar->Option (List V)
 | []=>some []
 |r::rs=>(match EU P e I r,BX P e I rs with|some v,some vs=>if na v=true then some (v::vs)else none|_,_=>none)
def mq (P:Program) (rs:List ResultVar) (e:Env) (I:St):Option V:=
 match rs with
 | [r]=>EU P e I r
 |rs=>(BX P e I rs).map .cz
def sX (a:Act):ResultVar->Sem Value
 | .tmp t=>pure (a.tmps.getD t undef)
 | .cell t T=>do loadVar T (<-asAddr (a.tmps.getD t undef))
theorem YJ (fn:Func) (a:Act):results fn a.tmps=(do let vs<-fn.results.mapM (sX a);pure (if h:vs.size=1 then vs[0]else .tuple vs)):=by
 rfl
theorem QG (h:dS c nt e I a w L J) {r:ResultVar} {v:V} (hv:EU P e I r=some v):
  ∃x,(sX a r).run P w= .ok x w/\dz w L I J v x:=by
 cases r with
 |tmp t=>
  simp only[EU,ai5]at hv
  subst hv
  exact⟨_,rfl,h.env t⟩
 |cell t T=>
  simp only[EU]at hv
  split at hv
  .rename_i v' hl
   simp only[ai5]at hv
   subst hv
   obtain⟨bl,off,z,hy,hz,r⟩:=P5 (P:=P) T h.mem (h.env t) hl
   grind[sX,asAddr]
  grind
theorem QH (h:dS c nt e I a w L J): ∀(rs:List ResultVar) (vs:List V),BX P e I rs=some vs->
  ∃xs:aiC,(rs.mapM (sX a)).run P w= .ok xs w/\bP (dX w L I J) vs xs/\xs.length=rs.length
 | [],vs,hv=>by
  simp only[BX,ai5]at hv
  subst hv
  exact⟨[],rfl,tV,rfl⟩
 |r::rs,vs,hv=>by
  simp only[BX]at hv
  split at hv
  .rename_i v gZ h1 h2
   split at hv
   .rename_i hh
    simp only[ai5]at hv
    subst hv
    obtain⟨x,hx,hr⟩:=QG (P:=P) h h1
    obtain⟨xs,aa,ab,hl⟩:=QH h rs gZ h2
    refine⟨x::xs, ?_,⟨EM hr hh,ab⟩,by simp[hl]⟩
    rw[List.mapM_cons]
    simp only[Sem.run_bind,hx,Result.andThen_ok,aa,Sem.run_pure]
   .cases hv
  .cases hv
theorem YK (h:dS c nt e I a w L J) {v:V} (hv:mq P fn.results.toList e I=some v): ∃x,(results fn a.tmps).run P w= .ok x w/\dz w L I J v x:=by
 have ab: ∀xs:aiC,(fn.results.toList.mapM (sX a)).run P w= .ok xs w->
   (results fn a.tmps).run P w= .ok (if hs:xs.toArray.size=1 then xs.toArray[0]else .tuple xs.toArray) w:=by
  grind[YJ,Array.mapM_eq_mapM_toList,Sem.run_bind,Sem.run_map,Result.andThen_ok,Sem.run_pure]
 unfold mq at hv
 split at hv
 .rename_i r hr
  obtain⟨x,hx,ad⟩:=QG (P:=P) h hv
  simp_all
 .rename_i rs ae
  cases ha:BX P e I fn.results.toList with
  |none=>grind
  |some vs=>
   rw[ha]at hv
   simp only[Ba,ai5]at hv
   subst hv
   obtain⟨xs,af,aa,hl⟩:=QH (P:=P) h _ _ ha
   refine⟨.tuple xs.toArray, ?_,xs,rfl,aa⟩
   have hn: ¬xs.toArray.size=1:=by
    intro q
    simp only[List.size_toArray]at q
    rw[hl]at q
    obtain⟨r,hr⟩:=List.length_eq_one_iff.1 q
    grind
   grind
def qx (n0:Nat) (R:V->St->Prop) (v:V) (I:St):Prop:=
 ∃v1 I1 pick I' r,oq [v] I [v1] I1/\gE n0 pick I1 I'/\cP (cK pick I1.length) r v1/\R r I'
def mu (P:Program) (rs:List ResultVar) (n0:Nat) (R:V->St->Prop):Exit->Env->St->Prop
 | .normal,e,I| .ret,e,I=> ∃v,mq P rs e I=some v/\qx n0 R v I
 |_,_,_=>False
theorem bN.oP {f:FuncId} {nt:Nat} {rs:List ResultVar} {args:List V} {I:St} {R:V->St->Prop} (n0:Nat) (hf:P.funcs[f]? =some fn) (af:fn.ntmps=nt) (ad:fn.results=rs.toArray) (hb:fn.body=some code) (h0:I.length=n0) (an:args.length<=nt)
  (h: ∀c:Ctx,c.cv.length=n0->c.β0.length=c.cv.length->VW P c nt code (mu P rs n0 R) (j7 0 args) I):bN P f args I R:=by
 subst af
 subst h0
 have ad:fn.results.toList=rs:=by rw[ad]
 subst ad
 intro w L J aa hm ha
 have hlen:=ha.length
 refine calls_of_wp hf hb ?_
 have ae:dS (entry w L I J) fn.ntmps (j7 0 args) I {tmps:=aa.toArray++Array.replicate (fn.ntmps - aa.toArray.size) undef,defers:= []} w L J:=by
  refine⟨hm,by grind,rfl,λt=> ?_⟩
  have e1:=Mo args 0 t
  rw[Ad]at e1
  rw[e1]
  by_cases ht:t<args.length
  .obtain⟨x,hx,r⟩:=ha.get t _ (A0 ht)
   have:(aa.toArray++Array.replicate (fn.ntmps - aa.toArray.size) undef).getD t undef=x:=by
    rw[Array.getD_eq_getD_getElem?,Dk (by grind)]
    grind
   grind
  .rw[Al,Di om]
   trivial
 refine wp_mono (h (entry w L I J) rfl hm.len _ w L J ae) λx a' w' q=> ?_
 have fin: ∀{x:Exit},(x= .normal\/x= .ret)->fw (entry w L I J) fn.ntmps (mu P fn.results.toList I.length R) x a' w'->
   a'.defers= []/\ ∃v,(results fn a'.tmps).run P w'= .ok v w'/\ ∃v' r L' I' J',Ending.returned v=Ending.returned v'/\R r I'/\I.length<=I'.length/\Mem (entry w L I J) w' L' I' J'/\dz w' L' I' J' r v':=by
  intro x hx q
  have hq: ∃e' I' L' J',dS (entry w L I J) fn.ntmps e' I' a' w' L' J'/\ ∃v,mq P fn.results.toList e' I'=some v/\qx I.length R v I':=by
   rcases hx with rfl|rfl<;>exact q
  obtain⟨e',cv,ao,J1,hs,v,hv,v1,I1,pick,I',r,ah,hp,ai,hR⟩:=hq
  obtain⟨x,hx,al⟩:=YK (P:=P) hs hv
  obtain⟨L',J2,ab,_,_,aj,_⟩:=ah.ok hs.mem (xs:= [x]) (by trivial)
  refine⟨hs.defs,x,hx,x,r,L',I',_,rfl,hR, ?_,ab.pick hp hm.len,yw (hp.jr ab.len) ai aj⟩
  rw[hp.len]
  rcases Bv pick.length I.length with ak|aq
  .have:=(A4.1 (hp.id pick.length ak)).1
   omega
  omega
 cases x with
 |normal=>exact fin (.inl rfl) q
 |ret=>exact fin (.inr rfl) q
 |exit id=>obtain⟨e',I',L',J',hs,hq⟩:=q;simpa
 |goto l=>simpa
 |panic ch=>trivial
 |outgrown=>trivial
theorem bN.intro {f:FuncId} {nt:Nat} {rs:List ResultVar} {args:List V} {I:St} {R:V->St->Prop} (n0:Nat) (hf:P.funcs[f]? =some fn) (aa:fn.ntmps=nt) (ab:fn.results=rs.toArray) (hb:fn.body=some code) (h0:I.length=n0) (ad:args.length<=nt)
  (h: ∀c:Ctx,c.cv.length=n0->c.β0.length=c.cv.length->qv P c nt code (mu P rs n0 R) (j7 0 args) I):bN P f args I R:=
 bN.oP n0 hf aa ab hb h0 ad (by grind[rO])
theorem QI {Q:Exit->Act->World->Prop} (uU:Nat->Act->World->Prop) (n:Nat) (h₀:uU n a w)
  (round: ∀n a w,uU n a w->code.wp P (Exit.then (λa' w'=> ∃m,m<n/\uU m a' w') Q) a w):(Code.loop code).wp P Q a w:=by
 intro b k cs
 have key: ∀n a w,uU n a w-> ∃e a' w',Q e a' w'/\Arrives P (lone (b.at a (.code code:: .inLoop code::k)) cs w) b k cs e a' w':=by
  intro n
  induction n using Nat.strongRecOn with
  |_ n ih=>
   intro a w hI
   obtain⟨e,a₁,qB,hq,aa⟩:=round n a w hI b (.inLoop code::k) cs
   cases e with
   |normal=>
    obtain⟨m,ad,ae⟩:=hq
    obtain⟨Mq,a₂,Mr,af,ab⟩:=ih m ad a₁ qB ae
    exact⟨Mq,a₂,Mr,af,.of_steps (Steps.trans aa (.one step_inLoop)) ab⟩
   |exit id=>exact⟨_,a₁,qB,hq,(by simpa)⟩
   |goto l=>exact⟨_,a₁,qB,hq,(by simpa)⟩
   |ret=>exact⟨_,a₁,qB,hq,(by simpa)⟩
   |panic ch=>exact⟨_,a₁,qB,hq,(by simpa)⟩
   |outgrown=>exact⟨_,a₁,qB,hq,(by simpa)⟩
 obtain⟨e,a',w',hq,aa⟩:=key n a w h₀
 exact⟨e,a',w',hq,.of_steps (.one step_loop) aa⟩
def nr:List (Nat×V)->Env
 | []=>oJ
 |(t,v)::r=>fu (nr r) t v
def YL (n0:Nat) (keep:aiB) (Inv:List V->St->Nat->Prop) (m:Nat) (e:Env) (I:St):Prop:=
 ∃vs s pick,gE n0 pick I s/\bP (cP (cK pick I.length)) vs (keep.map e)/\Inv vs s m
theorem Ms (h:dS c nt e I a w L J) (hc:c.β0.length=c.cv.length) {keep:aiB} {Inv:List V->St->Nat->Prop} {m:Nat} (hk:YL c.cv.length keep Inv m e I):
  ∃vs s J',Inv vs s m/\vs.length=keep.length/\dS c nt (nr (keep.zip vs)) s a w L J':=by
 obtain⟨vs,s,pick,hp,aa,hI⟩:=hk
 have hl:=aa.length
 simp at hl
 refine⟨vs,s,_,hI,hl,h.mem.pick hp hc,h.size,h.defs,λt=> ?_⟩
 have hb:=hp.jr h.mem.len
 clear hI
 revert aa hl
 generalize keep=kl
 intro aa hl
 induction kl generalizing vs with
 |nil=>trivial
 |cons q kl ih=>cases vs with
  |nil=>grind
  |cons v vs=>
   simp only[Dz,nr,fu]
   by_cases hq:t=q
   .subst hq
    rw[ai2 rfl]
    exact yw hb aa.1 (h.env t)
   .rw[ai1 hq]
    exact ih vs aa.2 (by grind)
end
def Fx.{v} {U:Sort v} (_:U):Type:=Unit
def fx.{v} {U:Sort v} {a:U}:Fx a:=()
abbrev KT:=Env->St->Prop
abbrev QT:=Exit->Env->St->Prop
def ot (P:Program) (c:Ctx) (nt:Nat) (code:Code) (Q:QT) (_:Fx code) (_:Fx Q) (e:Env) (I:St):Prop:=qv P c nt code Q e I
def mw (P:Program) (c:Ctx) (nt:Nat) (ops l:List Oper) (K:KT) (_:Fx ops) (_:Fx l) (_:Fx K) (e:Env) (I:St):Prop:=j6 P c nt ops l K e I
def eL (P:Program) (c:Ctx) (nt:Nat) (d:Option Tmp) (op:Op) (K:KT) (_:Fx op) (_:Fx K) (e:Env) (I:St):Prop:=jB P c nt d op K e I
def dU (nt:Nat) (d:Option Tmp) (r:R) (K:KT) (_:Fx K) (e:Env) (I:St):Prop:=ml nt d r K e I
def iJ (nt:Nat) (d:Option Tmp) (v:V) (K:KT) (_:Fx K) (e:Env) (I:St):Prop:=fe nt d v K e I
def sY (p q:Prop) (_:Fx q):Prop:=Jg p q
def EV (x:V) (A B:Prop) (_:Fx A) (_:Fx B):Prop:=GZ x A B
def kI (x:V) (want:Bool) (A B:Prop) (_:Fx A) (_:Fx B):Prop:=kH x want A B
def BY (t:Option Tmp) (want:Bool) (e:Env) (A B:Prop) (_:Fx A) (_:Fx B):Prop:=match t with|some t=>kH (e t) want A B|none=>False
def sZ (ops:List Oper) (_:Fx ops) (j:Nat):Option Tmp:=j5 ops j
def yy (K:KT) (Q:QT) (_:Fx K) (_:Fx Q) (x:Exit) (e:Env) (I:St):Prop:=Mn K Q x e I
def qC (id:Nat) (Q:QT) (_:Fx Q) (x:Exit) (e:Env) (I:St):Prop:=BW id Q x e I
def gG (P:Program) (c:Ctx) (nt:Nat) (code:Code) (Q:QT) (_:Fx code) (_:Fx Q) (e:Env) (I:St):Prop:=VW P c nt code Q e I
def jk (P:Program) (c:Ctx) (fv:V) (az:List V) (I:St) (K:V->St->Prop) (_:Fx K):Prop:=VC P c fv az I K
def Mt (nt:Nat) (d:Option Tmp) (K:KT) (_:Fx K) (e:Env) (v:V) (I:St):Prop:=fe nt d v K e I
section
variable {P:Program} {c:Ctx} {nt:Nat} {e:Env} {I:St} {K:KT} {Q:QT} {d:Option Tmp}
variable {x:Operand}{t:TypeId}{i:Nat}{A:Prop}{B:Prop}{op:BinOp}{b:Bool}{es:Option (List Pk)}{y:Operand}{l:List Operand}{want:Bool}{t':TypeId}{k:IntKind}{f:FuncId}{ops:List Oper}{ty:TypeId}{dY:Array Edge}{n:Int}{p:Prop}{ts:Array TypeId}{ek:Nat}
theorem zM {code:Code} (h:ot P c nt code Q fx fx e I):qv P c nt code Q e I:=h
@[go_sem] theorem BZ:ot P c nt .skip Q fx fx e I=Q .normal e I:=id rfl
@[go_sem] theorem EW {x y:Code}:ot P c nt (.seq x y) Q fx fx e I=ot P c nt x (yy (ot P c nt y Q fx fx) Q fx fx) fx fx e I:=id rfl
@[go_sem] theorem CA {t f:Code}:ot P c nt (.cond x t f) Q fx fx e I=EV (zG e x) (ot P c nt t Q fx fx e I) (ot P c nt f Q fx fx e I) fx fx:=id rfl
@[go_sem] theorem yz {b:Code}:ot P c nt (.block i b) Q fx fx e I=ot P c nt b (qC i Q fx) fx fx e I:=id rfl
@[go_sem] theorem CB:ot P c nt (.exit i) Q fx fx e I=Q (.exit i) e I:=id rfl
@[go_sem] theorem EX:ot P c nt .ret Q fx fx e I=Q .ret e I:=id rfl
@[go_sem] theorem vR {l:List Oper}:ot P c nt (.region i l.toArray false) Q fx fx e I=mw P c nt l l (Q .normal) fx fx fx e I:=id rfl
@[go_sem] theorem CC {ops:Array Oper}:ot P c nt (.region i ops true) Q fx fx e I=gG P c nt (.region i ops true) Q fx fx e I:=id rfl
@[go_sem] theorem CD {b:Code}:ot P c nt (.loop b) Q fx fx e I=gG P c nt (.loop b) Q fx fx e I:=id rfl
@[go_sem] theorem vS:yy K Q fx fx .normal e I=K e I:=id rfl
@[go_sem] theorem EY:yy K Q fx fx .ret e I=Q .ret e I:=id rfl
@[go_sem] theorem CE:yy K Q fx fx (.exit i) e I=Q (.exit i) e I:=id rfl
@[go_sem] theorem y4:qC i Q fx .normal e I=Q .normal e I:=id rfl
@[go_sem] theorem G0:qC i Q fx .ret e I=Q .ret e I:=id rfl
@[go_sem] theorem EZ:qC i Q fx (.exit i) e I=Q .normal e I:=by show(if i=i then _ else _)=_;simp
@[go_sem] theorem E8 {j:Nat}:qC i Q fx (.exit j) e I=if j=i then Q .normal e I else Q (.exit j) e I:=id rfl
theorem xB {op:Op} (h1:ir P e I op=cu P e I op) (h2:jB P c nt d op K e I=ml nt d (xX P d e I op) K e I):eL P c nt d op K fx fx e I=dU nt d (cu P e I op) K fx e I:=by
 grind[eL,dU,xX]
def wh (b:Bool) (x y:R):R:=if b=true then x else y
@[go_sem] theorem YM {x y:R}:wh true x y=x:=rfl
@[go_sem] theorem YN {x y:R}:wh false x y=y:=rfl
def Mu:V->Bool
 | .cz []=>true
 |_=>false
@[go_sem] theorem y5 {t:Nat}:lV e (some t)=Mu (e (100000+t)):=by
 rfl
@[go_sem] theorem y6:lV e none=false:=rfl
@[go_sem] theorem G1:Mu (.cz [])=true:=rfl
@[go_sem] theorem G2:Mu .u=false:=rfl
@[go_sem] theorem Mw {t:Nat}:oJ t= .u:=rfl
@[go_sem] theorem G3:mw P c nt ops [] K fx fx fx e I=K e I:=id rfl
@[go_sem] theorem E9 {rest:List Oper} {op:Op} {pos:String}:mw P c nt ops (⟨d,op,ty,pos,dY,none⟩::rest) K fx fx fx e I=eL P c nt d op (mw P c nt ops rest K fx fx fx) fx fx e I:=id rfl
@[go_sem] theorem CF {rest:List Oper} {op:Op} {pos:String} {j:Nat}:mw P c nt ops (⟨d,op,ty,pos,dY,some (j,want)⟩::rest) K fx fx fx e I=
  BY (sZ ops fx j) want e (eL P c nt d op (mw P c nt ops rest K fx fx fx) fx fx e I) (iJ nt d (.cz []) (mw P c nt ops rest K fx fx fx) fx e I) fx fx:=id rfl
@[go_sem] theorem Fa {t:Tmp}:BY (some t) want e A B fx fx=kI (e t) want A B fx fx:=id rfl
@[go_sem] theorem Fb {d:Option Tmp} {op:Op} {pos:String} {g:Option (Nat×Bool)} {l:List Oper}:sZ (⟨d,op,ty,pos,dY,g⟩::l) fx 0=d:=id rfl
@[go_sem] theorem Fc {o:Oper} {l:List Oper} {n:Nat}:sZ (o::l) fx (n+1)=sZ l fx n:=by rfl
@[go_sem] theorem Jj:kI (.bool true) true A B fx fx=A:=by grind[kI,kH]
@[go_sem] theorem Jk:kI (.bool false) false A B fx fx=A:=by grind[kI,kH]
@[go_sem] theorem Jl:kI (.bool true) false A B fx fx=B:=by grind[kI,kH]
@[go_sem] theorem Jm:kI (.bool false) true A B fx fx=B:=by grind[kI,kH]
@[go_sem] theorem Jn:kI (.cz []) want A B fx fx=B:=by rfl
@[go_sem] theorem Jo:EV (.bool true) A B fx fx=A:=by grind[EV,GZ]
@[go_sem] theorem Jp:EV (.bool false) A B fx fx=B:=by grind[EV,GZ]
theorem zV (ha:b=true->A) (hb:b=false->B):EV (.bool b) A B fx fx:=⟨ha,hb⟩
theorem xD (ha:b=want->A) (hb:b=(!want)->B):kI (.bool b) want A B fx fx:=⟨ha,λh=>hb (by cases b<;>cases want<;>simp_all)⟩
theorem zH {q:Prop} (hp:p) (hq:q):sY p q fx:=⟨hp,hq⟩
@[go_sem] theorem Jq {q:Prop}:sY True q fx=q:=by grind[sY,Jg]
@[go_sem] theorem Jr {v:V}:dU nt d (.ok v) K fx e I=iJ nt d v K fx e I:=id rfl
@[go_sem] theorem Fe {v:V}:dU nt d (.ez p v) K fx e I=sY p (iJ nt d v K fx e I) fx:=id rfl
@[go_sem] theorem Js {v:V} {s:St}:dU nt d (.st v s) K fx e I=iJ nt d v K fx e s:=id rfl
@[go_sem] theorem y7 {v:V} {s:St}:dU nt d (.dD p v s) K fx e I=sY p (iJ nt d v K fx e s) fx:=id rfl
@[go_sem] theorem Ff {t:Nat} {v:V}:iJ nt (some t) v K fx e I=(t<nt/\K (fu e t v) I):=id rfl
@[go_sem] theorem Fg {v:V}:iJ nt none v K fx e I=K e I:=id rfl
@[go_sem] theorem G4 {v:V}:Mt nt d K fx e v I=iJ nt d v K fx e I:=id rfl
@[go_sem] theorem G5:eL P c nt d (.move x) K fx fx e I=iJ nt d (zG e x) K fx e I:=(xB rfl rfl).trans rfl
@[go_sem] theorem CG:eL P c nt d (.assign x) K fx fx e I=iJ nt d (zG e x) K fx e I:=(xB rfl rfl).trans rfl
@[go_sem] theorem G6 {z:Operand}:eL P c nt d (.pick x y z) K fx fx e I=dU nt d (x9 (zG e x) (zG e y) (zG e z)) K fx e I:=(xB rfl rfl).trans rfl
@[go_sem] theorem Fh:eL P c nt d (.alloc t) K fx fx e I=dU nt d (rL P t I) K fx e I:=(xB rfl rfl).trans rfl
@[go_sem] theorem Jt:eL P c nt d (.box t x) K fx fx e I=dU nt d (vH I (zG e x)) K fx e I:=(xB rfl rfl).trans rfl
@[go_sem] theorem Fi {l:List (Nat×Operand)}:eL P c nt d (.build t l.toArray) K fx fx e I=dU nt d (yf (wB P t) (eY P t) (l.map λp=>(p.1,zG e p.2))) K fx e I:=(xB rfl rfl).trans rfl
@[go_sem] theorem s7 {n:Nat} {l:List (Nat×Operand)}:eL P c nt d (.buildSlice t n l.toArray) K fx fx e I=dU nt d (wh (lV e d) (vP ((eI P t).map (·.1)) n I (l.map λp=>(p.1,zG e p.2))) (vK ((eI P t).map (·.1)) n (l.map λp=>(p.1,zG e p.2)))) K fx e I:=id rfl
@[go_sem] theorem G7:eL P c nt d (.load t x) K fx fx e I=dU nt d (nf P t I (zG e x)) K fx e I:=(xB rfl rfl).trans rfl
@[go_sem] theorem Fj:eL P c nt d (.store t x y) K fx fx e I=dU nt d (vG P t I (zG e x) (zG e y)) K fx e I:=(xB rfl rfl).trans rfl
@[go_sem] theorem Ju:eL P c nt d (.nilCheck x) K fx fx e I=dU nt d (ya (zG e x)) K fx e I:=(xB rfl rfl).trans rfl
@[go_sem] theorem Jv:eL P c nt d (.binOp op t x y t') K fx fx e I=dU nt d (wh (pS y) (vF op (iR P t) (zG e x)) (wh (rN y) (yr op (nh P t) (zG e x)) (mS op (iR P t) (kE P t) (zG e x) (zG e y)))) K fx e I:=(xB rfl rfl).trans rfl
@[go_sem] theorem y8 {t:Nat}:pS (.tmp t)=false:=rfl
@[go_sem] theorem y9:pS (.const (.slice none 0 0))=true:=rfl
@[go_sem] theorem za:pS (.const (.int k n))=false:=rfl
@[go_sem] theorem vT:pS (.const (.bool b))=false:=rfl
@[go_sem] theorem zb {b:ByteArray}:pS (.const (.string b))=false:=rfl
@[go_sem] theorem zc {a:Option Addr}:pS (.const (.pointer a))=false:=rfl
@[go_sem] theorem vU:pS (.func f)=false:=rfl
@[go_sem] theorem zd {m:aiG}:pS (.const (.map m))=false:=rfl
@[go_sem] theorem vV {t:Nat}:rN (.tmp t)=false:=rfl
@[go_sem] theorem vW:rN (.const (.map none))=true:=rfl
@[go_sem] theorem vX:rN (.const (.int k n))=false:=rfl
@[go_sem] theorem uG:rN (.const (.bool b))=false:=rfl
@[go_sem] theorem vY {b:ByteArray}:rN (.const (.string b))=false:=rfl
@[go_sem] theorem vZ {a:Option Addr}:rN (.const (.pointer a))=false:=rfl
@[go_sem] theorem uH:rN (.func f)=false:=rfl
def QJ (l:List (V×St)) (A:V->St->Prop) (_:Fx A):Prop:= ∀p∈l,A p.1 p.2
@[go_sem] theorem YO {l:List (V×St)}:dU nt d (.any l) K fx e I=QJ l (λv s=>iJ nt d v K fx e s) fx:=id rfl
theorem YP {l:List (V×St)} {A:V->St->Prop} (h: ∀p∈l,A p.1 p.2):QJ l A fx:=h
@[go_sem] theorem ze {r:Option Operand}:eL P c nt d (.makeMap t r) K fx fx e I=dU nt d (yo I (nh P t) (r.map (zG e))) K fx e I:=(xB rfl rfl).trans rfl
@[go_sem] theorem CH {k:Operand} {ok:Bool}:eL P c nt d (.lookup t x k ok) K fx fx e I=dU nt d (xZ (gF P t) I (zG e x) (zG e k) ok) K fx e I:=(xB rfl rfl).trans rfl
@[go_sem] theorem uK {k v:Operand}:eL P c nt d (.mapUpdate t x k v) K fx fx e I=dU nt d (xW (gF P t) I (zG e x) (zG e k) (zG e v)) K fx e I:=(xB rfl rfl).trans rfl
@[go_sem] theorem Fk:eL P c nt d (.range t x) K fx fx e I=dU nt d (yt (nh P t) I (zG e x)) K fx e I:=(xB rfl rfl).trans rfl
@[go_sem] theorem G8:eL P c nt d (.next x false) K fx fx e I=dU nt d (wh (lV e d) (ni true I (zG e x)) (ni false I (zG e x))) K fx e I:=id rfl
@[go_sem] theorem CI {k:Operand}:eL P c nt d (.call ⟨.builtin .delete, #[x,k], #[t,t']⟩) K fx fx e I=dU nt d (yq (gF P t) I (zG e x) (zG e k)) K fx e I:=(xB rfl rfl).trans rfl
attribute [go_sem] GL BO yo xZ xW yt ni yq yr mT oo qo yp yu
def wall (A:Bool->Prop) (_:Fx A):Prop:= ∀b,A b
@[go_sem] theorem G9 {f:Bool->V}:dU nt d (.all f) K fx e I=wall (λb=>iJ nt d (f b) K fx e I) fx:=id rfl
theorem Jw {A:Bool->Prop} (h: ∀b,A b):wall A fx:=h
@[go_sem] theorem Mx {op:UnOp}:eL P c nt d (.unOp op t x) K fx fx e I=dU nt d (nb op (zG e x)) K fx e I:=(xB rfl rfl).trans rfl
@[go_sem] theorem Ha:eL P c nt d (.convert t t' x) K fx fx e I=dU nt d (wh (lV e d) (yk (jG P t) (jG P t') I (zG e x)) (vL (jG P t) (jG P t') (zG e x))) K fx e I:=id rfl
@[go_sem] theorem Fl {hi:Option Operand}:eL P c nt d (.slice t x none hi none) K fx fx e I=dU nt d (sK (iP P t) (dJ P t) ((eI P t).map (·.1)) (zG e x) none (hi.map (zG e))) K fx e I:=(xB rfl rfl).trans rfl
@[go_sem] theorem CJ {lo hi:Operand}:eL P c nt d (.slice t x (some lo) (some hi) none) K fx fx e I=dU nt d (sK (iP P t) (dJ P t) ((eI P t).map (·.1)) (zG e x) (some (zG e lo)) (some (zG e hi))) K fx e I:=(xB rfl rfl).trans rfl
@[go_sem] theorem CK {lo:Operand}:eL P c nt d (.slice t x (some lo) none none) K fx fx e I=dU nt d (wh (lV e d) (yg (dJ P t) ((eI P t).map (·.1)) I (zG e x) (zG e lo)) (sK (iP P t) (dJ P t) ((eI P t).map (·.1)) (zG e x) (some (zG e lo)) none)) K fx e I:=id rfl
@[go_sem] theorem uL {f:Nat}:eL P c nt d (.fieldAddr t x f) K fx fx e I=dU nt d (yc P t (zG e x) f) K fx e I:=(xB rfl rfl).trans rfl
@[go_sem] theorem Fm {f:Nat}:eL P c nt d (.field t x f) K fx fx e I=dU nt d (yi (cy P t f) (zG e x)) K fx e I:=(xB rfl rfl).trans rfl
@[go_sem] theorem zf {i:Operand}:eL P c nt d (.indexAddr t x i) K fx fx e I=dU nt d (vI (fa P t) (iP P t) (zG e x) (zG e i)) K fx e I:=(xB rfl rfl).trans rfl
@[go_sem] theorem Jx {i:Operand}:eL P c nt d (.index t x i) K fx fx e I=dU nt d (vJ (zG e x) (zG e i) (qh P t) (iP P t)) K fx e I:=(xB rfl rfl).trans rfl
@[go_sem] theorem zg:eL P c nt d (.extract x i) K fx fx e I=dU nt d (yb (zG e x) i) K fx e I:=(xB rfl rfl).trans rfl
@[go_sem] theorem Hb {fn:Fn} {m:List Operand}:eL P c nt d (.makeFunc fn l.toArray m.toArray) K fx fx e I=dU nt d (yj fn l.length (m.map (zG e))) K fx e I:=(xB rfl rfl).trans rfl
@[go_sem] theorem Hc {l m:Operand}:eL P c nt d (.makeSlice t l m) K fx fx e I=dU nt d (wh (lV e d) (vN (eI P t) (jq P t) I (zG e l) (zG e m)) (vM (eI P t) (jq P t) I (zG e l) (zG e m))) K fx e I:=id rfl
@[go_sem] theorem Jy:eL P c nt d (.call ⟨.builtin .len, #[x], #[t]⟩) K fx fx e I=dU nt d (ye (dJ P t) (zG e x)) K fx e I:=(xB rfl rfl).trans rfl
@[go_sem] theorem Fo:eL P c nt d (.call ⟨.builtin .clear, #[x], #[t]⟩) K fx fx e I=dU nt d (vO ((eI P t).map (·.1)) (jq P t) I (zG e x)) K fx e I:=(xB rfl rfl).trans rfl
@[go_sem] theorem CL:eL P c nt d (.call ⟨.builtin .append, #[x,y], #[t,t']⟩) K fx fx e I=dU nt d (wh (lV e d) (sI (eI P t) (dJ P t') I (zG e x) (zG e y)) (sH (eI P t) (dJ P t') I (zG e x) (zG e y))) K fx e I:=id rfl
@[go_sem] theorem Jz:eL P c nt d (.call ⟨.builtin .min,l.toArray,ts⟩) K fx fx e I=dU nt d (qm false (l.map (zG e))) K fx e I:=(xB rfl rfl).trans rfl
@[go_sem] theorem JA:eL P c nt d (.call ⟨.builtin .max,l.toArray,ts⟩) K fx fx e I=dU nt d (qm true (l.map (zG e))) K fx e I:=(xB rfl rfl).trans rfl
@[go_sem] theorem Hd {f:Operand}:eL P c nt d (.call ⟨.value f,l.toArray,ts⟩) K fx fx e I=jk P c (zG e f) (l.map (zG e)) I (Mt nt d K fx e) fx:=id rfl
@[go_sem] theorem Fp {t:Nat}:zG e (.tmp t)=e t:=rfl
@[go_sem] theorem zh {v:Value}:zG e (.const v)=jj v:=rfl
@[go_sem] theorem CM {g:Nat}:zG e (.global g)=P1 g:=rfl
@[go_sem] theorem CN:zG e (.func f)= .fn f []:=rfl
@[go_sem] theorem JB {t':Nat} {v:V} {t:Nat}:fu e t' v t=if t=t' then v else e t:=rfl
@[go_sem] theorem CO:jj (.bool b)= .bool b:=rfl
@[go_sem] theorem Fq:jj (.int k n)= .int k n:=rfl
@[go_sem] theorem Fs {s:ByteArray}:jj (.string s)= .str s.data.toList:=rfl
@[go_sem] theorem CP:jj (.pointer none)= .fV:=rfl
@[go_sem] theorem CQ:jj (.slice none 0 0)= .sl .full []:=rfl
attribute [go_sem] yg vF GJ BM x9 ya nb vL yk qm ye vH rL yb yi yc nf rK vG na xO vJ vI sK yh oj sH sI BN sG P7 vO vK vP vN sJ yf EK vM yj GQ pP kZ rM oi j7 nr
@[go_sem] theorem Ft {x y:Int}:mS op ek es (.int k x) (.int k y)=BK op k x y:=by simp[mS]
@[go_sem] theorem Fu {x y:aiA}:mS op ek es (.str x) (.str y)=BL op x y:=rfl
@[go_sem] theorem CR {x y:Bool}:mS op 1 es (.bool x) (.bool y)=(match op with| .eql=> .ok (.bool (x==y))| .neq=> .ok (.bool (!(x==y)))|_=> .fail):=rfl
@[go_sem] theorem Fv {o:Nat}:mS op 2 es (.ptr i o) .fV=(match op with| .eql=> .ok (.bool false)| .neq=> .ok (.bool true)|_=> .fail):=rfl
@[go_sem] theorem Fw:mS op 2 es .fV .fV=(match op with| .eql=> .ok (.bool true)| .neq=> .ok (.bool false)|_=> .fail):=rfl
@[go_sem] theorem Fy {ks:List Pk} {az bs:List V}:mS op ek (some ks) (.agg az) (.agg bs)=(match lq ks az bs with|some r=>(match op with| .eql=> .ok (.bool r)| .neq=> .ok (.bool (!r))|_=> .fail)|none=> .fail):=rfl
attribute [go_sem] BK BL lq jH putCells
end
def rP:V->Bool
 | .ptr _ _| .sl (.app _) _| .agg _| .cz _| .fn _ _| .cL _ _ _ _ _| .iH _ _ _ _ _| .jZ _ _ _ _| .mp _| .gW _ _=>false
 |_=>true
def oQ:V->Bool
 | .fn _ bY=>bY.all rP
 | .gW _ vs=>vs.all rP
 |v=>rP v
def v7:V->Bool
 | .agg cs=>cs.all oQ
 |v=>oQ v
def gM:V->Bool
 | .cz vs=>vs.all v7
 |v=>v7 v
def cN (n:Nat):V->Bool
 | .ptr id _=>decide (id<n)
 | .sl (.app id) _=>decide (id<n)
 | .cL id _ _ _ _=>decide (id<n)
 | .iH id _ _ _ _=>decide (id<n)
 | .jZ id _ _ _=>decide (id<n)
 | .mp id=>decide (id<n)
 | .agg _| .cz _| .fn _ _| .gW _ _=>false
 |_=>true
def cS (n:Nat):V->Bool
 | .fn _ bY=>bY.all (cN n)
 | .gW _ vs=>vs.all (cN n)
 |v=>cN n v
def jC (n:Nat):V->Bool
 | .agg cs=>cs.all (cS n)
 |v=>cS n v
def iS (n:Nat):V->Bool
 | .cz vs=>vs.all (jC n)
 |v=>jC n v
def bT (n:Nat):Ob->Bool
 | .box cells=>cells.all (cS n)
 | .cd rows _=>rows.all λr=>r.all (cS n)
 | .mp dL _ _=>dL.all (jC n)
 | .it m _ _ _=>(match m with|some id=>decide (id<n)|none=>true)
 |_=>true
theorem wH {U:Type} {f:U->U} {p:U->Bool} (h: ∀a,p a=true->f a=a): ∀{l:List U},l.all p=true->l.map f=l
 | [],_=>rfl
 |a::l,q=>by
  simp only[Bt,Ac]at q
  rw[Ah,h a q.1,wH h q.2]
section
variable {ρ:Nat->Nat}
theorem QK {v:V} (h:rP v):dt ρ v=v:=by
 cases v with
 |sl g rows=>cases g<;>first|rfl|simp[rP]at h
 |_=>first|rfl|simp[rP]at h
theorem CS {v:V} (h:oQ v):dj ρ v=v:=by
 cases v with
 |fn f bY=>simp only[dj];rw[wH (λ_=>QK) h]
 |gW t v=>simp only[dj];rw[wH (λ_=>QK) h]
 |sl g rows=>cases g<;>first|rfl|simp[oQ,rP]at h
 |_=>first|rfl|simp[oQ,rP]at h
theorem My {v:V} (h:v7 v):dM ρ v=v:=by
 cases v with
 |agg cs=>simp only[dM];rw[wH (λ_=>CS) h]
 |fn f bY=>exact CS (v:= .fn f bY) h
 |gW t v=>exact CS (v:= .gW t v) h
 |sl g rows=>cases g<;>first|rfl|simp[v7,oQ,rP]at h
 |_=>first|rfl|simp[v7,oQ,rP]at h
theorem zi {v:V} (h:gM v):dH ρ v=v:=by
 cases v with
 |cz vs=>simp only[dH];rw[wH (λ_=>My) h]
 |agg cs=>exact My (v:= .agg cs) h
 |fn f bY=>exact CS (v:= .fn f bY) h
 |gW t v=>exact CS (v:= .gW t v) h
 |sl g rows=>cases g<;>first|rfl|simp[gM,v7,oQ,rP]at h
 |_=>first|rfl|simp[gM,v7,oQ,rP]at h
variable {n:Nat} (iT: ∀i,i<n->ρ i=i)
include iT
theorem zj {v:V} (h:cN n v):dt ρ v=v:=by
 cases v with
 |sl g rows=>cases g with
  |app id=>simp_all[cN,dt]
  |_=>rfl
 |ptr id off=>simp_all[cN,dt]
 |cL id s n lo m=>simp_all[cN,dt]
 |iH id s n k j=>simp_all[cN,dt]
 |jZ id s off n=>simp_all[cN,dt]
 |mp id=>simp_all[cN,dt]
 |_=>first|rfl|simp[cN]at h
theorem mU {v:V} (h:cS n v):dj ρ v=v:=by
 cases v with
 |fn f bY=>simp only[dj];rw[wH (by grind[zj]) h]
 |gW t v=>simp only[dj];rw[wH (by grind[zj]) h]
 |sl g rows=>have:=zj iT (v:= .sl g rows) h;simpa
 |ptr id off=>exact zj iT (v:= .ptr id off) h
 |cL id s' n' lo m=>exact zj iT (v:= .cL id s' n' lo m) h
 |iH id s' n' k j=>exact zj iT (v:= .iH id s' n' k j) h
 |jZ id s' off n'=>exact zj iT (v:= .jZ id s' off n') h
 |mp id=>exact zj iT (v:= .mp id) h
 |_=>first|rfl|simp[cS,cN]at h
theorem JC {v:V} (h:jC n v):dM ρ v=v:=by
 cases v with
 |agg cs=>simp only[dM];rw[wH (by grind[mU]) h]
 |fn f bY=>exact mU iT (v:= .fn f bY) h
 |gW t v=>exact mU iT (v:= .gW t v) h
 |sl g rows=>have:=mU iT (v:= .sl g rows) h;simpa
 |ptr id off=>exact mU iT (v:= .ptr id off) h
 |cL id s' n' lo m=>exact mU iT (v:= .cL id s' n' lo m) h
 |iH id s' n' k j=>exact mU iT (v:= .iH id s' n' k j) h
 |jZ id s' off n'=>exact mU iT (v:= .jZ id s' off n') h
 |mp id=>exact mU iT (v:= .mp id) h
 |_=>first|rfl|simp[jC,cS,cN]at h
theorem Mz {v:V} (h:iS n v):dH ρ v=v:=by
 cases v with
 |cz vs=>simp only[dH];rw[wH (by grind[JC]) h]
 |agg cs=>exact JC iT (v:= .agg cs) h
 |fn f bY=>exact mU iT (v:= .fn f bY) h
 |gW t v=>exact mU iT (v:= .gW t v) h
 |sl g rows=>have:=JC iT (v:= .sl g rows) h;simpa
 |ptr id off=>exact mU iT (v:= .ptr id off) h
 |cL id s' n' lo m=>exact mU iT (v:= .cL id s' n' lo m) h
 |iH id s' n' k j=>exact mU iT (v:= .iH id s' n' k j) h
 |jZ id s' off n'=>exact mU iT (v:= .jZ id s' off n') h
 |mp id=>exact mU iT (v:= .mp id) h
 |_=>first|rfl|simp[iS,jC,cS,cN]at h
theorem yY {o:Ob} (h:bT n o):yA ρ o=o:=by
 cases o with
 |box cells=>simp only[yA];rw[wH (by grind[mU]) h]
 |cd rows s=>simp only[yA];rw[wH (by grind[wH,mU]) h]
 |mp dL gk cV=>simp only[yA];rw[wH (by grind[JC]) h]
 |it m since seen last=>
  cases m with
  |none=>rfl
  |some id=>simp_all[bT,yA]
 |_=>rfl
end
theorem qE {n N i:Nat} (h:i<n):cK (List.range n) N i=i:=by
 grind[wV]
theorem QL {n0:Nat} {s loc:St} (db:s.all (bT s.length)) (hn:n0<=s.length):gE n0 (List.range s.length) (s++loc) s:=by
 refine⟨sm,Bf,λi j o hi ho=> ?_,λi hi=> ?_⟩
 .obtain⟨hl,hj⟩:=A4.1 hi
  simp at hj hl
  subst hj
  have:bT s.length o=true:=by
   grind
  grind[yY,qE]
 grind
theorem zC {ρ:Nat->Nat} {v:V} (h:gM v):cP ρ v v:= .inl (zi h).symm
theorem zK {ρ:Nat->Nat} {g:Tag} {rows:List (List V)}:cP ρ (.sl .ro rows) (.sl g rows):= .inr sm
theorem xQ {n N:Nat} {v:V} (h:iS n v):cP (cK (List.range n) N) v v:= .inl (by grind[Mz,qE])
theorem yE {ρ:Nat->Nat}: ∀{l:List V},l.all gM=true->bP (cP ρ) l l
 | [],_=>trivial
 |v::l,h=>by
  simp only[Bt,Ac]at h
  exact⟨zC h.1,yE h.2⟩
section
variable {P:Program} {c:Ctx} {nt:Nat} {e:Env} {I:St} {K:KT} {Q:QT} {d:Option Tmp} {R:V->St->Prop} {rs:List ResultVar} {n0:Nat}
def cw (v:Option V) (n0:Nat) (R:V->St->Prop) (I:St):Prop:= ∃x,v=some x/\qx n0 R x I
@[go_sem] theorem He:mu P rs n0 R .ret e I=cw (mq P rs e I) n0 R I:=id rfl
@[go_sem] theorem zk:mu P rs n0 R .normal e I=cw (mq P rs e I) n0 R I:=id rfl
attribute [go_sem] mq EU BX
theorem zW {v r:V} (hr:cP (cK [] I.length) r v) (hR:R r []):cw (some v) 0 R I:=
 ⟨v,rfl,v,I,[],[],r,.refl _ _,⟨rfl,C0,sm,om⟩,hr,hR⟩
theorem mV (k:Nat) {v r:V} (hk:(I.take k).length=k) (db:(I.take k).all (bT k)) (hn:n0<=k) (hr:cP (cK (List.range k) I.length) r v) (hR:R r (I.take k)):cw (some v) n0 R I:=by
 have h1:I.take k++I.drop k=I:=sm
 have hp:=QL (n0:=n0) (s:=I.take k) (loc:=I.drop k) (by rw[hk];exact db) (by rw[hk];exact hn)
 rw[h1,hk]at hp
 exact⟨v,rfl,v,I,_,I.take k,r,.refl _ _,hp,hr,hR⟩
theorem MA (id s:Nat) (rows:List (List V)) {v:V} (cJ:I[id]? =some (.cd rows s)) (hp:xI rows) (h:cw (some (gp id rows v)) n0 R (jJ id rows I)):cw (some v) n0 R I:=by
 obtain⟨x,hx,v1,I1,pick,I',r,hf,hr⟩:=h
 cases hx
 exact⟨v,rfl,v1,I1,pick,I',r,.step id s rows cJ hp hf,hr⟩
abbrev Pure (P:Program) (f:FuncId) (args:List V) (v:V):Prop:=bN P f args [] λr s=>r=v/\s= []
theorem zL {f:FuncId} {bY args cj:List V} {v:V} {KV:V->St->Prop} (hc:Pure P f cj v) (hb:xE P f) (aa:bP (cP (cK [] I.length)) cj (args++bY)) (hn:gM v) (hk:KV v I):
  jk P c (.fn f bY) args I KV fx:=by
 refine VC.of hc hb [] C0 rfl sm aa ?_
 rintro r I' ⟨rfl,rfl⟩ _
 grind[zi,yX,fI]
theorem YQ {f:FuncId} {bY args cj:List V} {o:Ob} {i:Nat} {KV:V->St->Prop} {R:V->St->Prop} (hc:bN P f cj [o] R) (hb:xE P f) (ho:I[i]? =some o) (ab:bT 0 o)
  (aa:bP (cP (cK [i] I.length)) cj (args++bY)) (hk: ∀r I',R r I'->1<=I'.length->KV (dH (cK [i] I.length) r) (yX [i] I I')):jk P c (.fn f bY) args I KV fx:=by
 refine VC.of hc hb [i] sm rfl (λk j o' h1 h2=> ?_) aa hk
 cases k with
 |zero=>
  simp at h1 h2
  subst h1;subst h2
  rw[yY (n:=0) om ab];exact ho
 |succ k=>grind
end
def lW:Op->Nat
 | .move _| .assign _| .pick .. | .build .. | .buildSlice .. | .nilCheck _| .binOp .. | .unOp .. | .convert .. | .slice .. | .fieldAddr .. | .field .. | .indexAddr .. | .index .. | .extract .. | .makeFunc .. =>0
 | .call ⟨.builtin .len,_,_⟩| .call ⟨.builtin .min,_,_⟩| .call ⟨.builtin .max,_,_⟩=>0
 | .load .. =>1
 | .alloc .. | .box .. =>3
 |_=>4
def zZ (q:List (Nat×Nat)) (i:Nat) (o:Oper):Nat:=match q.find? (·.1==i)with|some p=>min p.2 4|none=>lW o.op
structure Kp where
 x:Nat
 n:Nat
 ex:aiB
 ob:Option (Nat×(Ob->R))
abbrev Kp.pre (n:Nat):Kp:=⟨0,n,[],none⟩
def Kp.has (k:Kp) (id:Nat):Bool:=decide (k.x<=id)&&decide (id<k.n)&& !k.ex.contains id
@[go_sem] theorem Kp.JD {n id:Nat}:(Kp.mk 0 n [] none).has id=decide (id<n):=by simp[Kp.has]
@[go_sem] theorem Kp.JE {x n id:Nat}:(Kp.mk (x+1) n [] none).has id=(decide (x+1<=id)&&decide (id<n)):=by simp[Kp.has]
def Kp.of (k:Kp) (I:St):St×Option R:=(((I.take k.n).mapIdx λi o=>if k.ex.contains i then .dead else o).drop k.x,k.ob.bind λp=>((I.take k.n)[p.1]?).map p.2)
theorem Kp.get {k:Kp} {id:Nat} {I S:St} (h:k.has id) (ht:k.of I=k.of S):I[id]? =S[id]? :=by
 simp only[Kp.has,Ac,ai7,Do]at h
 obtain⟨⟨h1,h2⟩,h3⟩:=h
 have e: ∀τ:St,(k.of τ).1[id - k.x]? =τ[id]? :=(by simp_all[Kp.of])
 grind
theorem Kp.lZ {k:Kp} {I ext:St} (h:k.n<=I.length):k.of (I++ext)=k.of I:=by
 grind[Kp.of]
theorem Kp.iU {k:Kp} {I:St} {id:Nat} {o:Ob} (h:(id<k.x/\k.ob=none)\/k.n<=id):k.of (I.set id o)=k.of I:=by
 unfold Kp.of
 congr 1
 .refine Bh λi=> ?_
  grind
 grind
theorem Kp.zl {k:Kp} {I:St} {id:Nat} {o o':Ob} (hx:k.ex.contains id) (ho:I[id]? =some o) (hk: ∀p,k.ob=some p->p.1=id->p.2 o'=p.2 o):k.of (I.set id o')=k.of I:=by
 unfold Kp.of
 congr 1
 .congr 1
  refine Bh λi=> ?_
  grind
 .cases aa:k.ob<;>grind
def zm (a b:Nat):Bool:=(a==4&&b !=0)||(b==4&&a !=0)||(a==3&&(b==3||b==2))||(b==3&&a==2)
def oR (ops:List Oper) (o:Oper):List Tmp:=(o.op.operands.toList.filterMap λ| .tmp t=>some t|_=>none)++(match o.guard with|some (j,_)=>(j5 ops j).toList|none=> [])++(o.dst.map (100000+ ·)).toList
def db (P:Program) (d:Option Tmp) (e:Env) (op:Op):Prop:=lV e d=false\/ ∀e I,ir P e I op=cu P e I op
theorem qF {P:Program} {d:Option Tmp} {e:Env} {op:Op} (h:db P d e op) (I:St):xX P d e I op=cu P e I op:=by
 unfold xX
 rcases h with h|h
 all_goals grind
theorem YR {d:Option Tmp} {e e':Env} (h: ∀t,d=some t->e (100000+t)=e' (100000+t)):lV e d=lV e' d:=by
 cases d with
 |none=>rfl
 |some t=>simp only[lV,h t rfl]
def gq:List Oper->List aiB->List aiB
 | [],acc=>acc
 |o::os,acc=>gq os (acc++ [((o.after.toList.filter (Region.binds .any)).flatMap λe=>e.on::acc.getD e.on []).eraseDups])
def uM (ops:List Oper) (q:List (Nat×Nat)) (i j:Nat) (a b:Oper):Bool:=
 zm (zZ q i a) (zZ q j b)||
 (match a.dst with|some d=>(oR ops b).contains d||b.dst==some d|none=>false)||(match b.dst with|some d=>(oR ops a).contains d|none=>false)
def uN (ops:List Oper) (q:List (Nat×Nat)):Bool:=
 let b:=gq ops []
 (List.range ops.length).all λj=>(List.range j).all λi=>
  match ops[i]?,ops[j]? with
  |some x,some y=> !uM ops q i j x y||(b.getD j []).contains i
  |_,_=>true
def rQ (ops:List Oper):Bool:=(List.range ops.length).all λj=>match ops[j]? with|some o=>o.after.all λe=> !Region.binds .any e||decide (e.on<j)|none=>true
section
variable {P:Program} {c:Ctx} {nt:Nat} {n0:Kp}
variable {I:St}{e:Env}{e':Env}
theorem QM (ops:List Oper) (D:Nat->Prop) (hD: ∀(j:Nat) o,ops[j]? =some o->D j-> ∀e∈o.after.toList,Region.binds .any e=true->D e.on):
  ∀(rest pre:List Oper) (acc:List aiB),ops=pre++rest->acc.length=pre.length->(∀j l,acc[j]? =some l->D j-> ∀i∈l,D i)->
   ∀j l,(gq rest acc)[j]? =some l->D j-> ∀i∈l,D i
 | [],_,acc,_,_,h=>h
 |o::rest,pre,acc,aa,hlen,h=>by
  rw[gq]
  refine QM ops D hD rest (pre++ [o]) _ (by grind) (by grind) λj l hj ab i hi=> ?_
  rcases xG hj with ⟨_,hj⟩|⟨hj,hl⟩
  .grind
  .have ad:j=pre.length:=om
   rw[hl]at hi
   have ae:=List.mem_eraseDups.1 hi
   grind
def CT (n0:Kp):V->Bool
 | .ptr id _=>n0.has id
 | .iH id _ _ _ _=>n0.has id
 |_=>true
def gV (n0:Kp) (I I':St):Prop:=(∃ext,I'=I++ext)\/n0.of I'=n0.of I
theorem gV.refl {n0:Kp}:gV n0 I I:= .inr rfl
def Fact (P:Program) (c:Ctx) (nt:Nat) (n0:Kp) (ops:List Oper) (q:List (Nat×Nat)) (i:Nat) (o:Oper) (e:Env) (I:St) (v:V) (I':St):Prop:=
 (∀t,o.dst=some t->t<nt)/\(zZ q i o<3->I'=I)/\(zZ q i o=3->gV n0 I I')/\I.length<=I'.length/\
 ∃g:Bool,(match o.guard with|none=>g=true|some (j,want)=> ∃t,j5 ops j=some t/\((∃b,e t= .bool b/\g=(b==want))\/(e t= .cz []/\g=false)))/\
  (if g then(match o.op with
   | .call ⟨.value f,args,_⟩=>(if zZ q i o=0 then∀s,VC P c (zG e f) (args.toList.map (zG e)) s (λr s'=>r=v/\s'=s)else if zZ q i o=1 then∀s,n0.of s=n0.of I->VC P c (zG e f) (args.toList.map (zG e)) s (λr s'=>r=v/\s'=s)else VC P c (zG e f) (args.toList.map (zG e)) I (λr s=>r=v/\s=I'))
   |op=>(zZ q i o<3->db P o.dst e op)/\(zZ q i o=0->lW op=0)/\(zZ q i o=1->(∃t x,op= .load t x/\CT n0 (zG e x)=true)\/(∀t x,op≠ .load t x)/\ ∀s,n0.of s=n0.of I->cu P e s op=cu P e I op)/\
    ((xX P o.dst e I op= .ok v/\I'=I)\/(∃p,xX P o.dst e I op= .ez p v/\p/\I'=I)\/(3<=zZ q i o/\(xX P o.dst e I op= .st v I'\/ ∃p,xX P o.dst e I op= .dD p v I'/\p))))
   else v= .cz []/\I'=I)
def ga (e:Env) (d:Option Tmp) (v:V):Env:=match d with|some t=>fu e t v|none=>e
def oS (P:Program) (c:Ctx) (nt:Nat) (n0:Kp) (ops:List Oper) (q:List (Nat×Nat)):Nat->List Oper->Env->St->List (V×St)->Prop
 |_,[],_,_,[]=>True
 |i,o::os,e,I,(v,I')::tr=>Fact P c nt n0 ops q i o e I v I'/\oS P c nt n0 ops q (i+1) os (ga e o.dst v) I' tr
 |_,_,_,_,_=>False
def fE (D:Nat->Bool):Nat->List Oper->List (V×St)->Env->Env
 |i,o::os,(v,_)::tr,e=>fE D (i+1) os tr (if D i then ga e o.dst v else e)
 |_,_,_,e=>e
def fS (D:Nat->Bool) (q:List (Nat×Nat)):Nat->List Oper->List (V×St)->St->St
 |i,o::os,(_,I')::tr,s=>fS D q (i+1) os tr (if D i&&decide (3<=zZ q i o)then I' else s)
 |_,_,_,s=>s
theorem zn (e:Env) (d:Option Tmp) (v:V) (t:Tmp) (h:d=some t):ga e d v t=v:=by simp_all[ga,fu]
theorem zo (e:Env) (d:Option Tmp) (v:V) (t:Tmp) (h:d≠some t):ga e d v t=e t:=by
 cases d with
 |none=>rfl
 |some d=>simp only[ga,fu];grind
theorem qG (D D':Nat->Bool) (t:Tmp): ∀(os:List Oper) (tr:List (V×St)) (i:Nat) (e e':Env),e t=e' t->(∀(k:Nat) o,os[k]? =some o->o.dst=some t->D (i+k)=D' (i+k))->fE D i os tr e t=fE D' i os tr e' t
 | [],_,_,_,_,h,_=>by simpa
 |o::os,[],_,_,_,h,_=>by simpa
 |o::os,(v,s)::tr,i,e,e',h,hD=>by
  rw[fE,fE]
  refine qG D D' t os tr (i+1) _ _ ?_ (λk o' hk hd=>by have:=hD (k+1) o' (sU hk) hd;grind)
  by_cases hd:o.dst=some t
  .have:=hD 0 o rfl hd
   rw[D4]at this
   grind[zn]
  grind[zo]
theorem JF (D:Nat->Bool) (t:Tmp) (os:List Oper) (tr:List (V×St)) (i:Nat) (e:Env) (h: ∀(k:Nat) o,os[k]? =some o->o.dst=some t->D (i+k)=false):fE D i os tr e t=e t:=by
 have h1:=qG D (λ_=>false) t os tr i e e rfl om
 rw[h1]
 clear h h1
 induction os generalizing tr i with
 |nil=>rfl
 |cons o os ih=>cases tr<;>simp_all[fE]
theorem CU (D:Nat->Bool) (t:Tmp): ∀(os:List Oper) (tr:List (V×St)) (i k:Nat) (e:Env) (o:Oper) (v:V) (s:St),os[k]? =some o->tr[k]? =some (v,s)->o.dst=some t->D (i+k)=true->(∀(k':Nat) o',k<k'->os[k']? =some o'->o'.dst=some t->D (i+k')=false)->fE D i os tr e t=v
 | [],_,_,_,_,_,_,_,h,_,_,_,_=>by grind
 |_::_,[],_,_,_,_,_,_,_,h,_,_,_=>by grind
 |o1::os,(v1,s1)::tr,i,0,e,o,v,s,h1,h2,hd,hD,hl=>by
  simp at h1 h2
  obtain⟨rfl,rfl⟩:=h2
  subst h1
  rw[fE,ai2 om,JF]
  .grind[zn]
  .intro k o' hk aa
   have:=hl (k+1) o' om (sU hk) aa
   grind
 |o1::os,(v1,s1)::tr,i,k+1,e,o,v,s,h1,h2,hd,hD,hl=>by
  rw[fE]
  refine CU D t os tr (i+1) k _ o v s (sU h1) (sU h2) hd (by rwa [show i+1+k=i+(k+1) by omega]) λk' o' ad ab aa=> ?_
  have:=hl (k'+1) o' om (sU ab) aa
  rwa [show i+1+k'=i+(k'+1) by omega]
theorem s8 (D D':Nat->Bool) (q:List (Nat×Nat)): ∀(os:List Oper) (tr:List (V×St)) (i:Nat) (s:St),(∀(k:Nat) o,os[k]? =some o->3<=zZ q (i+k) o->D (i+k)=D' (i+k))->fS D q i os tr s=fS D' q i os tr s
 | [],_,_,_,_=>by rfl
 |o::os,[],_,_,_=>by rfl
 |o::os,(v,I')::tr,i,s,h=>by
  rw[fS,fS]
  have e1:(if(D i&&decide (3<=zZ q i o))=true then I' else s)=(if(D' i&&decide (3<=zZ q i o))=true then I' else s):=by
   by_cases hk:3<=zZ q i o
   .have:=h 0 o rfl om
    grind
   grind
  rw[e1]
  exact s8 D D' q os tr (i+1) _ (λk o' hk hd=>by have:=h (k+1) o' (by grind) (by grind);grind)
theorem zp (D:Nat->Bool) (q:List (Nat×Nat)) (os:List Oper) (tr:List (V×St)) (i:Nat) (s:St) (h: ∀(k:Nat) o,os[k]? =some o->3<=zZ q (i+k) o->D (i+k)=false):fS D q i os tr s=s:=by
 have h1:=s8 D (λ_=>false) q os tr i s h
 rw[h1]
 clear h h1
 induction os generalizing tr i with
 |nil=>rfl
 |cons o os ih=>cases tr<;>simp_all[fS]
theorem Fz (D:Nat->Bool) (q:List (Nat×Nat)): ∀(os:List Oper) (tr:List (V×St)) (i k:Nat) (s:St) (o:Oper) (v:V) (I':St),os[k]? =some o->tr[k]? =some (v,I')->3<=zZ q (i+k) o->D (i+k)=true->(∀(k':Nat) o',k<k'->os[k']? =some o'->3<=zZ q (i+k') o'->D (i+k')=false)->fS D q i os tr s=I'
 | [],_,_,_,_,_,_,_,h,_,_,_,_=>by grind
 |_::_,[],_,_,_,_,_,_,_,h,_,_,_=>by grind
 |o1::os,(v1,s1)::tr,i,0,s,o,v,I',h1,h2,hd,hD,hl=>by
  simp at h1 h2
  obtain⟨rfl,rfl⟩:=h2
  subst h1
  rw[D4]at hd hD
  rw[fS,ai2 (by grind),zp]
  intro k o' hk aa
  have:=hl (k+1) o' om (by grind) (by grind)
  grind
 |o1::os,(v1,s1)::tr,i,k+1,s,o,v,I',h1,h2,hd,hD,hl=>by
  rw[fS]
  refine Fz D q os tr (i+1) k _ o v I' (sU h1) (sU h2) (by rwa [show i+1+k=i+(k+1) by omega]) (by rwa [show i+1+k=i+(k+1) by omega]) λk' o' ad ab aa=> ?_
  have:=hl (k'+1) o' om (sU ab) (by rwa [show i+(k'+1)=i+1+k' by omega])
  rwa [show i+1+k'=i+(k'+1) by omega]
theorem FA (ops:List Oper) (q:List (Nat×Nat)): ∀(os:List Oper) (tr:List (V×St)) (i:Nat) (e:Env) (I:St),oS P c nt n0 ops q i os e I tr->
  tr.length=os.length/\ ∀(k:Nat) o,os[k]? =some o-> ∃v I',tr[k]? =some (v,I')/\Fact P c nt n0 ops q (i+k) o (fE (λj=>decide (j<i+k)) i os tr e) (fS (λj=>decide (j<i+k)) q i os tr I) v I'
 | [],[],_,_,_,_=>sm
 | [],_::_,_,_,_,h=>h.elim
 |_::_,[],_,_,_,h=>h.elim
 |o::os,(v,I')::tr,i,e,I,⟨hf,ht⟩=>by
  obtain⟨hl,aa⟩:=FA ops q os tr (i+1) _ _ ht
  refine⟨by grind,λk o' hk=> ?_⟩
  cases k with
  |zero=>
   simp at hk
   subst hk
   refine⟨v,I',rfl, ?_⟩
   rw[D4,fE,fS]
   have h1:(if(λj=>decide (j<i)) i=true then ga e o.dst v else e)=e:=sm
   have h2:(if((λj=>decide (j<i)) i&&decide (3<=zZ q i o))=true then I' else I)=I:=sm
   rw[h1,h2]
   have e1:fE (λj=>decide (j<i)) (i+1) os tr e=e:=by
    funext t
    grind[JF]
   grind[zp]
  |succ k=>
   obtain⟨v2,s2,h1,h2⟩:=aa k o' (by grind)
   refine⟨v2,s2,by grind, ?_⟩
   rw[show i+(k+1)=i+1+k by omega]
   rw[fE,fS,ai2 (by grind)]
   have hs:(if((λj=>decide (j<i+1+k)) i&&decide (3<=zZ q i o))=true then I' else I)=I':=by
    by_cases ab:3<=zZ q i o
    .grind
    .rw[ai1 (by grind)]
     exact(hf.2.1 om).symm
   grind
theorem MB (op:Op) (h: ∀x∈op.operands.toList,zG e x=zG e' x):cu P e I op=cu P e' I op:=by
 have hl: ∀l:List Operand,(∀x∈l,zG e x=zG e' x)->l.map (zG e)=l.map (zG e'):=sm
 have dO: ∀ps:List (Nat×Operand),(∀x∈ps.map (·.2),zG e x=zG e' x)->(ps.map λp=>(p.1,zG e p.2))=(ps.map λp=>(p.1,zG e' p.2)):=λps hp=>
  B9 (by grind)
 cases op with
 |build t ps=>grind[cu,Op.operands]
 |buildSlice t n ps=>grind[cu,Op.operands]
 |makeFunc fn first bY=>grind[cu,Op.operands]
 |slice t x lo hi mx=>cases lo<;>cases hi<;>cases mx<;>simp_all[cu,Op.operands]
 |makeMap t r=>cases r<;>simp_all[cu,Op.operands]
 |next x b=>cases b<;>simp_all[cu,Op.operands]
 |call cl=>
  obtain⟨aa,args,ts⟩:=cl
  cases aa with
  |builtin b=>
   have h': ∀x∈args.toList,zG e x=zG e' x:=(by grind[Op.operands,Call.operands])
   obtain⟨args⟩:=args
   cases b<;>simp only[cu]
   all_goals grind
  |_=>simp only[cu]
 |_=>first|rfl|(simp_all[cu,Op.operands];done)
theorem YS (op:Op) (h: ∀x∈op.operands.toList,zG e x=zG e' x):ir P e I op=ir P e' I op:=by
 have hc:=MB (P:=P) (I:=I) op h
 have dO: ∀ps:List (Nat×Operand),(∀x∈ps.map (·.2),zG e x=zG e' x)->(ps.map λp=>(p.1,zG e p.2))=(ps.map λp=>(p.1,zG e' p.2)):=λps hp=>
  B9 (by grind)
 cases op with
 |buildSlice t n ps=>grind[ir,Op.operands]
 |makeSlice t l m=>grind[ir,Op.operands]
 |convert t t' x=>grind[ir,Op.operands]
 |slice t x lo hi mx=>
  cases lo with
  |none=>exact hc
  |some lo=>cases hi with
   |some _=>exact hc
   |none=>cases mx<;>grind[ir,Op.operands]
 |next x b=>cases b<;>simp_all[ir,Op.operands]
 |call cl=>
  obtain⟨aa,args,ts⟩:=cl
  cases aa with
  |builtin b=>
   have h': ∀x∈args.toList,zG e x=zG e' x:=(by grind[Op.operands,Call.operands])
   obtain⟨args⟩:=args
   cases b
   case append=>simp only[ir];grind
   all_goals simpa
  |_=>exact hc
 |_=>exact hc
theorem YT {d:Option Tmp} (op:Op) (hd:lV e d=lV e' d) (h: ∀x∈op.operands.toList,zG e x=zG e' x):xX P d e I op=xX P d e' I op:=by
 grind[xX,MB,YS]
theorem YU {I':St} (o:Oper) (hc: ∀f az ts,o.op≠ .call ⟨.value f,az,ts⟩) (h:lW o.op=0):cu P e I o.op=cu P e I' o.op:=by
 obtain⟨dst,op,ty,pos,dY,g⟩:=o
 simp only at h hc⊢
 cases op with
 |call cl=>
  obtain⟨aa,args,ts⟩:=cl
  cases aa with
  |builtin b=>obtain⟨args⟩:=args;cases b<;>first|(simp[lW]at h;done)|(simp only[cu];done)|(simp only[cu];split<;>first|rfl|contradiction|(rename_i heq;simp at heq))
  |value f=>rfl
  |_=>rfl
 |slice t x lo hi mx=>cases lo<;>cases hi<;>cases mx<;>rfl
 |_=>first|rfl|(simp[lW]at h;done)
section
variable {e:Env} {I:St} {a:Act} {w:World} {L:Nat->Nat} {J:aiC}
theorem JG {ops:List Oper} {Q:Exit->Act->World->Prop} {next:Act->World->Prop} (o:Oper) {K:Env->St->Prop} (h:dS c nt e I a w L J) (hK:uF o.guard ops e (jB P c nt o.dst o.op K e I) (fe nt o.dst (.cz []) K e I))
  (hn: ∀e' I' a' w' L' J',dS c nt e' I' a' w' L' J'->K e' I'->next a' w'):
  if Region.wanted o (yielded ops.toArray a.tmps)then o.wp P a w next Q\/(o.asks P a w/\LetsOut Q)else next (a.put o.dst undef) w:=by
 have no:fe nt o.dst (.cz []) K e I->next (a.put o.dst undef) w:=λhv=>by
  obtain⟨e',hs,hk⟩:=ET h h.mem (Le.refl _ _) (Ext.refl _ _) (show dz w L I J (.cz []) undef from⟨[],rfl,tV⟩) hv
  grind
 unfold uF at hK
 split at hK
 .rename_i hg
  rw[ai2 (by grind[Region.wanted])]
  grind[Jh]
 .rename_i j want hg
  split at hK
  .rename_i t ht
   have hv:=h.env t
   unfold kH at hK
   split at hK
   .rename_i b hb
    rw[hb]at hv
    have hv:=pQ hv
    have hy:yielded ops.toArray a.tmps j=some b:=by
     unfold yielded
     unfold j5 at ht
     have aa:(ops.toArray[j]?).bind (·.dst)=some t:=by grind
     rw[aa]
     simp only[Ay]
     have ab:t<a.tmps.size:=by
      rcases Bv t a.tmps.size with q|q
      .exact q
      .simp[Array.getD,Nat.not_lt.2 q,undef]at hv
     simp_all
    by_cases ad:b=want
    .rw[ai2 (by grind[Region.wanted])]
     grind[Jh]
    simp_all[Region.wanted]
   .rename_i hb
    rw[hb]at hv
    rw[ai1 (by grind[Region.wanted,QF])]
    grind
   grind
  grind
theorem zq {d:Option Tmp} {v:V} {K:Env->St->Prop} (hd: ∀t,d=some t->t<nt) (h:K (ga e d v) I):fe nt d v K e I:=by
 cases d with
 |none=>exact h
 |some t=>exact⟨hd t rfl,h⟩
theorem YV {t:TypeId} {S:St} {x:V} (h:CT n0 x) (ht:n0.of I=n0.of S):nf P t I x=nf P t S x:=by
 cases x with
 |ptr id off=>
  have:I[id]? =S[id]? :=Kp.get h ht
  grind[nf]
 |iH id s n k j=>
  have:I[id]? =S[id]? :=Kp.get h ht
  grind[nf]
 |_=>rfl
theorem Fact.step {ops:List Oper} {q:List (Nat×Nat)} {i:Nat} {o:Oper} {E:Env} {S:St} {v:V} {I':St} (hf:Fact P c nt n0 ops q i o E S v I') (he: ∀t∈oR ops o,e t=E t) (hs:2<=zZ q i o->I=S) (h1:zZ q i o=1->n0.of I=n0.of S):
  uF o.guard ops e (jB P c nt o.dst o.op (λe' s'=>e'=ga e o.dst v/\s'=if 3<=zZ q i o then I' else I) e I) (fe nt o.dst (.cz []) (λe' s'=>e'=ga e o.dst v/\s'=if 3<=zZ q i o then I' else I) e I):=by
 obtain⟨hd,aw,_,_,g,hg,hb⟩:=hf
 have ai: ∀x∈o.op.operands.toList,zG e x=zG E x:=λx hx=>by
  cases x with
  |tmp t=>exact he t (ain _ (by grind))
  |_=>rfl
 have keep:I'=S->(if 3<=zZ q i o then I' else I)=I:=(by grind)
 have yes:g=true->jB P c nt o.dst o.op (λe' s'=>e'=ga e o.dst v/\s'=if 3<=zZ q i o then I' else I) e I:=by
  intro an
  rw[ai2 an]at hb
  unfold jB
  split
  .rename_i f args ts ab
   rw[ab]at hb ai
   simp only at hb
   have ao:=h1
   have h1:zG e f=zG E f:=(by grind[Op.operands,Call.operands])
   have h2:args.toList.map (zG e)=args.toList.map (zG E):=(by grind[B9,Op.operands,Call.operands])
   rw[h1,h2]
   split at hb
   .rename_i aq
    refine(hb I).mono ?_
    rintro x s' ⟨rfl,rfl⟩
    exact zq hd (by grind)
   .rename_i aq
    split at hb
    .rename_i aa
     refine(hb I (ao aa)).mono ?_
     rintro x s' ⟨rfl,rfl⟩
     exact zq hd (by grind)
    rename_i aa
    rw[hs om]
    refine hb.mono ?_
    rintro x s' ⟨rfl,rfl⟩
    refine zq hd ⟨rfl, ?_⟩
    grind
  .rename_i ax
   have ad:(zZ q i o<3->db P o.dst E o.op)/\(zZ q i o=0->lW o.op=0)/\(zZ q i o=1->(∃t x,o.op= .load t x/\CT n0 (zG E x)=true)\/(∀t x,o.op≠ .load t x)/\ ∀s,n0.of s=n0.of S->cu P E s o.op=cu P E S o.op)/\((xX P o.dst E S o.op= .ok v/\I'=S)\/(∃p,xX P o.dst E S o.op= .ez p v/\p/\I'=S)\/(3<=zZ q i o/\(xX P o.dst E S o.op= .st v I'\/ ∃p,xX P o.dst E S o.op= .dD p v I'/\p))):=by
    grind
   obtain⟨hh,hz,ho,ad⟩:=ad
   have ay:lV e o.dst=lV E o.dst:=(by grind[YR,oR])
   have ae:xX P o.dst e I o.op=xX P o.dst E S o.op:=by
    by_cases h3:zZ q i o<3
    .have aj:=hh h3
     have ar:db P o.dst e o.op:=by
      unfold db at aj⊢
      grind
     rw[qF ar,qF aj,MB o.op ai]
     by_cases h0:zZ q i o=0
     .grind[YU]
     .by_cases aa:zZ q i o=1
      .rcases ho aa with ⟨t,x,ab,ak⟩|⟨_,ak⟩
       .rw[ab]
        exact YV ak (h1 aa)
       grind
      grind
    grind[YT]
   rw[ae]
   rcases ad with ⟨hr,hq⟩|⟨p,hr,hp,hq⟩|⟨h2,hr|⟨p,hr,hp⟩⟩
   .rw[hr];exact zq (K:=(λe' s'=>e'=ga e o.dst v/\s'=if 3<=zZ q i o then I' else I)) hd (by grind)
   .rw[hr];exact⟨hp,zq (K:=(λe' s'=>e'=ga e o.dst v/\s'=if 3<=zZ q i o then I' else I)) hd (by grind)⟩
   .rw[hr]
    show fe nt o.dst v (λe' s'=>e'=ga e o.dst v/\s'=if 3<=zZ q i o then I' else I) e I'
    exact zq (K:=(λe' s'=>e'=ga e o.dst v/\s'=if 3<=zZ q i o then I' else I)) hd (by grind)
   .rw[hr]
    show p/\fe nt o.dst v (λe' s'=>e'=ga e o.dst v/\s'=if 3<=zZ q i o then I' else I) e I'
    exact⟨hp,zq (K:=(λe' s'=>e'=ga e o.dst v/\s'=if 3<=zZ q i o then I' else I)) hd (by grind)⟩
 have no:g=false->fe nt o.dst (.cz []) (λe' s'=>e'=ga e o.dst v/\s'=if 3<=zZ q i o then I' else I) e I:=by
  intro au
  rw[ai1 (by simp[au])]at hb
  obtain⟨rfl,hq⟩:=hb
  exact zq hd (by grind)
 unfold uF
 split
 .grind
 .rename_i j want av
  rw[av]at hg
  obtain⟨t,ht,af⟩:=hg
  rw[ht]
  simp only
  have:e t=E t:=he t (ain _ (by grind))
  rcases af with ⟨b,ah,al⟩|⟨ah,al⟩
  .rw[this,ah]
   exact⟨(by grind),(by grind)⟩
  .rw[this,ah]
   exact no al
end
variable {ops:List Oper}{q:List (Nat×Nat)}{i:Nat}{j:Nat}{tr:List (V×St)}
theorem yV {a b:Oper} (h:uM ops q i j a b=false):
  zm (zZ q i a) (zZ q j b)=false/\(∀d,a.dst=some d->d∉oR ops b/\b.dst≠some d)/\(∀d,b.dst=some d->d∉oR ops a):=by
 grind[uM]
theorem wF (q:List (Nat×Nat)) (i:Nat) (o:Oper):zZ q i o<=4:=by
 unfold zZ
 split
 .omega
 .unfold lW
  grind
theorem zr {a b:Nat} (ha:3<=a) (aa:a<=4) (hb:2<=b) (ab:b<=4):zm a b=true:=by
 have h1:a=3\/a=4:=om
 have h2:b=2\/b=3\/b=4:=om
 rcases h1 with rfl|rfl<;>rcases h2 with rfl|rfl|rfl<;>rfl
theorem JH (a b:Nat):zm a b=zm b a:=by
 grind[zm]
theorem JI {b:Nat} (hb:1<=b):zm 4 b=true:=by
 grind[zm]
theorem JJ {e0:Env} {cv:St} (ht:oS P c nt n0 ops q 0 ops e0 cv tr) (hn:n0.n<=cv.length):
  ∀(d j:Nat),j+d<=ops.length->(∀(m:Nat) o,j<=m->m<j+d->ops[m]? =some o->zZ q m o≠4)->
   n0.n<=(fS (λx=>decide (x<j)) q 0 ops tr cv).length/\n0.of (fS (λx=>decide (x<j+d)) q 0 ops tr cv)=n0.of (fS (λx=>decide (x<j)) q 0 ops tr cv):=by
 obtain⟨_,aa⟩:=FA ops q ops tr 0 e0 cv ht
 have next: ∀k,k<ops.length-> ∃o v I',ops[k]? =some o/\Fact P c nt n0 ops q k o (fE (λj=>decide (j<k)) 0 ops tr e0) (fS (λj=>decide (j<k)) q 0 ops tr cv) v I'/\fS (λj=>decide (j<k+1)) q 0 ops tr cv=I':=by
  intro k hk
  obtain⟨v,I',ab,hf⟩:=aa k ops[k] sm
  rw[Ad]at hf
  refine⟨ops[k],v,I',sm,hf, ?_⟩
  by_cases h3:3<=zZ q k ops[k]
  .refine Fz _ q ops tr 0 k cv ops[k] v I' sm ab (by grind) sm (by grind)
  .have:=hf.2.1 om
   rw[this]
   refine s8 _ _ q ops tr 0 cv λm o' hm ad=> ?_
   grind
 have len: ∀j,j<=ops.length->n0.n<=(fS (λx=>decide (x<j)) q 0 ops tr cv).length:=by
  intro j
  induction j with
  |zero=>grind[zp]
  |succ j ih=>
   intro hj
   obtain⟨o,v,I',_,hf,he⟩:=next j om
   rw[he]
   exact Ax om hf.2.2.2.1
 intro d
 induction d with
 |zero=>grind
 |succ d ih=>
  intro j hj h4
  obtain⟨h1,h2⟩:=ih j om (by grind)
  refine⟨h1, ?_⟩
  obtain⟨o,v,I',ho,hf,he⟩:=next (j+d) om
  rw[show j+(d+1)=j+d+1 by omega,he,<-h2]
  have ae:=h4 (j+d) o om om ho
  have hle:=wF q (j+d) o
  by_cases h3:zZ q (j+d) o=3
  .rcases hf.2.2.1 h3 with ⟨ext,hx⟩|hx
   .rw[hx,Kp.lZ (len (j+d) om)]
   omega
  .rw[hf.2.1 om]
theorem v8 (h:uN ops q) {x y:Oper} (aa:i<j) (hx:ops[i]? =some x) (hy:ops[j]? =some y):
  uM ops q i j x y=false\/i∈(gq ops []).getD j []:=by
 unfold uN at h
 grind
theorem CV {D:Nat->Bool} (hD: ∀(j:Nat) o,ops[j]? =some o->D j=true-> ∀e∈o.after.toList,Region.binds .any e=true->D e.on) (hi:i∈(gq ops []).getD j []) (hj:D j):D i=true:=by
 rw[Al]at hi
 cases hb:(gq ops [])[j]? with
 |none=>grind
 |some l=>
  rw[hb]at hi
  exact QM ops (λk=>D k=true) hD ops [] [] rfl rfl sm j l hb hj i (by grind)
theorem QN {l:Array Bool} (h:l[i]? =some false):(l.setIfInBounds i true).toList.count false+1=l.toList.count false:=by
 grind
theorem YW {Q:Exit->Env->St->Prop} {e0:Env} {cv:St} (hn:n0.n<=cv.length) (hd:uN ops q) (aw:rQ ops) (ht:oS P c nt n0 ops q 0 ops e0 cv tr)
  (hQ:Q .normal (fE (λ_=>true) 0 ops tr e0) (fS (λ_=>true) q 0 ops tr cv)):
  ∀(fuel:Nat) (bM:Array Bool) (a:Act) (w:World) (L:Nat->Nat) (J:aiC),bM.size=ops.length->bM.toList.count false=fuel->
   (∀(j:Nat) o,ops[j]? =some o->bM.getD j false=true-> ∀e∈o.after.toList,Region.binds .any e=true->bM.getD e.on false=true)->
   dS c nt (fE (λi=>bM.getD i false) 0 ops tr e0) (fS (λi=>bM.getD i false) q 0 ops tr cv) a w L J->
   wpAny P .any ops.toArray (fw c nt Q) fuel bM a w:=by
 obtain⟨ax,aJ⟩:=FA ops q ops tr 0 e0 cv ht
 have fin: ∀(bM:Array Bool) (a:Act) (w:World) (L:Nat->Nat) (J:aiC),dS c nt (fE (λi=>bM.getD i false) 0 ops tr e0) (fS (λi=>bM.getD i false) q 0 ops tr cv) a w L J->
   (∀i,i<ops.length->bM.getD i false=true)->fw c nt Q .normal a w:=by
  intro bM a w L J hs ab
  have e1:fE (λi=>bM.getD i false) 0 ops tr e0=fE (λ_=>true) 0 ops tr e0:=by
   funext t
   exact qG _ _ t ops tr 0 e0 e0 rfl λk o hk _=>by rw[Ad];exact ab k (A4.1 hk).1
  have e2:fS (λi=>bM.getD i false) q 0 ops tr cv=fS (λ_=>true) q 0 ops tr cv:=
   s8 _ _ q ops tr 0 cv λk o hk _=>by rw[Ad];exact ab k (A4.1 hk).1
  rw[e1,e2]at hs
  exact⟨_,_,L,J,hs,hQ⟩
 have ay: ∀(bM:Array Bool),bM.size=ops.length->Region.ready .any ops.toArray bM= []-> ∀i,i<ops.length->bM.getD i false=true:=by
  intro bM aj hr i
  induction i using Nat.strongRecOn with
  |ind i ih=>
   intro hi
   cases ao:bM.getD i false with
   |true=>rfl
   |false=>
    exfalso
    have hm:i∈Region.ready .any ops.toArray bM:=by
     refine mem_ready.2 ⟨?_,ops[i],by simp[hi],λe he hb=> ?_⟩
     .have af:i<bM.size:=om
      simpa[Array.getD,af]using ao
     .unfold rQ at aw
      simp only[Am,Cm]at aw
      have:=aw i hi
      rw[A0 hi]at this
      simp only[Cg]at this
      have:=this e he
      simp only[hb,Bool.not_true,C5,ai7]at this
      exact ih e.on this om
    rw[hr]at hm
    cases hm
 intro fuel
 induction fuel with
 |zero=>
  intro bM a w L J aj aB aq hs
  have ab: ∀i,i<ops.length->bM.getD i false:=by
   intro i hi
   have af:i<bM.size:=om
   cases ao:bM[i]with
   |true=>simp[Array.getD,af,ao]
   |false=>
    exfalso
    have:false∈bM.toList:=by
     rw[<-ao];simp
    have:=List.count_pos_iff.2 this
    omega
  refine⟨?_,fin bM a w L J hs ab⟩
  cases hr:Region.ready .any ops.toArray bM with
  |nil=>rfl
  |cons i l=>
   exfalso
   have hm:i∈Region.ready .any ops.toArray bM:=by rw[hr];simp
   obtain⟨h1,o,ho,_⟩:=mem_ready.1 hm
   have hi:i<ops.length:=(A4.1 (sU ho)).1
   have:=ab i hi
   have af:i<bM.size:=om
   simp[Array.getD,af]at this h1
   rw[this]at h1
   cases h1
 |succ fuel ih=>
  intro bM a w L J aj aB aq hs
  refine⟨λhr=>fin bM a w L J hs (ay bM aj hr),λi hi=> ?_⟩
  obtain⟨h1,o,ho,az⟩:=mem_ready.1 hi
  have aa:ops[i]? =some o:=sU ho
  have af:i<bM.size:=by rw[aj];exact(A4.1 aa).1
  have ar:bM.getD i false=false:=by
   simp[Array.getD,af]at h1⊢;exact h1
  have ai: ∀k,k≠i->(bM.setIfInBounds i true).getD k false=bM.getD k false:=λk hk=>getD_set_ne false (λq=>hk q.symm)
  have a1:(bM.setIfInBounds i true).getD i false:=by simp[Array.getD,af]
  have av: ∀(j:Nat) o,ops[j]? =some o->(bM.setIfInBounds i true).getD j false=true-> ∀e∈o.after.toList,Region.binds .any e=true->(bM.setIfInBounds i true).getD e.on false=true:=by
   intro j o' hj aC e he hb
   by_cases aD:j=i
   .subst aD
    rw[aa]at hj
    cases hj
    exact getD_set_true (az e (sU he) hb)
   .rw[ai j aD]at aC
    exact getD_set_true (aq j o' hj aC e he hb)
  have ahead: ∀{k:Nat},k≠i->k∈(gq ops []).getD i []->bM.getD k false=true:=fun{k} hk hb=>by
   have:=CV (D:=λj=>(bM.setIfInBounds i true).getD j false) av hb a1
   rwa [ai k hk]at this
  have nu: ∀{k:Nat},i∈(gq ops []).getD k []->bM.getD k false=false:=fun{k} hb=>by
   cases hk:bM.getD k false with
   |false=>rfl
   |true=>
    have:=CV (D:=λj=>bM.getD j false) aq hb hk
    rw[ar]at this;cases this
  obtain⟨v,I',aE,ak⟩:=aJ i o aa
  rw[Ad]at ak
  have aF: ∀t∈oR ops o,fE (λi=>bM.getD i false) 0 ops tr e0 t=fE (λj=>decide (j<i)) 0 ops tr e0 t:=by
   intro t ax
   refine qG _ _ t ops tr 0 e0 e0 rfl λk o' hk ae=> ?_
   rw[Ad]
   rcases Be k i with ad|ad|ad
   .rw[ai4 ad]
    rcases v8 hd ad hk aa with hc|hb
    .exact absurd ax ((yV hc).2.1 t ae).1
    .exact ahead om hb
   .subst ad;rw[ar];simp
   .rw[ai3 om]
    rcases v8 hd ad aa hk with hc|hb
    .exact absurd ax ((yV hc).2.2 t ae)
    .exact nu hb
  have au:2<=zZ q i o->fS (λi=>bM.getD i false) q 0 ops tr cv=fS (λj=>decide (j<i)) q 0 ops tr cv:=by
   intro ah
   refine s8 _ _ q ops tr 0 cv λk o' hk ae=> ?_
   rw[Ad]at ae⊢
   rcases Be k i with ad|ad|ad
   .rw[ai4 ad]
    rcases v8 hd ad hk aa with hc|hb
    .have:=(yV hc).1
     rw[zr ae (wF _ _ _) ah (wF _ _ _)]at this
     cases this
    .exact ahead om hb
   .subst ad;rw[ar];simp
   .rw[ai3 om]
    rcases v8 hd ad aa hk with hc|hb
    .have:=(yV hc).1
     rw[JH,zr ae (wF _ _ _) ah (wF _ _ _)]at this
     cases this
    .exact nu hb
  have aG:zZ q i o=1->n0.of (fS (λi=>bM.getD i false) q 0 ops tr cv)=n0.of (fS (λj=>decide (j<i)) q 0 ops tr cv):=by
   intro aH
   have pre: ∀N,N<=ops.length-> ∃m,m<=N/\ ∀k o',k<N->ops[k]? =some o'->3<=zZ q k o'->bM.getD k false=decide (k<m):=by
    intro N
    induction N with
    |zero=>exact λ_=>⟨0,A7 _,λk o' h=>om⟩
    |succ N aK=>
     intro hN
     obtain⟨m,hm,ab⟩:=aK om
     have aI:=A0 (show N<ops.length by omega)
     by_cases hw:3<=zZ q N (ops[N]'om)/\bM.getD N false=true
     .refine⟨N+1,A7 _,λk o' hk al h3=> ?_⟩
      rw[ai4 hk]
      by_cases a6:k=N
      .subst a6;exact hw.2
      .rcases v8 hd (show k<N by omega) al aI with hc|hb
       .have:=(yV hc).1
        rw[zr h3 (wF _ _ _) om (wF _ _ _)]at this
        cases this
       .exact CV (D:=λj=>bM.getD j false) aq hb hw.2
     .refine⟨m,om,λk o' hk al h3=> ?_⟩
      by_cases a6:k=N
      .subst a6
       rw[aI]at al;cases al
       rw[ai3 om]
       cases hl:bM.getD k false with
       |false=>rfl
       |true=>exact absurd ⟨h3,hl⟩ hw
      .exact ab k o' om al h3
   obtain⟨m,hm,ab⟩:=pre ops.length (A7 _)
   have e1:fS (λi=>bM.getD i false) q 0 ops tr cv=fS (λx=>decide (x<m)) q 0 ops tr cv:=
    s8 _ _ q ops tr 0 cv λk o' hk h3=>by
     rw[Ad]at h3⊢
     exact ab k o' (A4.1 hk).1 hk h3
   rw[e1]
   have aQ:i<ops.length:=(A4.1 aa).1
   rcases Nat.le_total m i with aL|aL
   .have:=(JJ ht hn (i - m) m om (λk o' h5 h6 hk h4=>by
     have h7:=ab k o' (A4.1 hk).1 hk om
     rw[ai3 om]at h7
     rcases v8 hd (show k<i by omega) hk aa with hc|hb
     .have:=(yV hc).1
      rw[h4,aH,JI dC]at this
      cases this
     .rw[ahead om hb]at h7;cases h7)).2
    rw[show m+(i - m)=i by omega]at this
    exact this.symm
   .have:=(JJ ht hn (m - i) i om (λk o' h5 h6 hk h4=>by
     have h7:=ab k o' (A4.1 hk).1 hk om
     rw[ai4 om]at h7
     have ad:k≠i:=λqq=>by
      subst qq
      rw[hk]at aa;cases aa
      omega
     rcases v8 hd (show i<k by omega) aa hk with hc|hb
     .have:=(yV hc).1
      rw[JH,h4,aH,JI dC]at this
      cases this
     .rw[nu hb]at h7;cases h7)).2
    rw[show i+(m - i)=m by omega]at this
    exact this
  have aP:=JG (ops:=ops) (Q:=fw c nt Q) (next:=wpAny P .any ops.toArray (fw c nt Q) fuel (bM.setIfInBounds i true)) o hs (ak.step aF au aG) (by
   rintro e' s' a' w' L' J' aR ⟨rfl,rfl⟩
   refine ih _ a' w' L' J' (sU aj) ?_ av ?_
   .have:=QN (l:=bM) (i:=i) (by
     rw[B2 af]
     have:=ar
     simp[Array.getD,af]at this
     rw[this])
    omega
   .have e1:ga (fE (λi=>bM.getD i false) 0 ops tr e0) o.dst v=fE (λk=>(bM.setIfInBounds i true).getD k false) 0 ops tr e0:=by
     funext t
     by_cases an:o.dst=some t
     .rw[zn _ _ _ _ an]
      refine(CU _ t ops tr 0 i e0 o v I' aa aE an (by rw[Ad];exact a1) λk' o' a7 a8 aA=> ?_).symm
      rw[Ad,ai k' om]
      rcases v8 hd a7 aa a8 with hc|hb
      .exact absurd aA ((yV hc).2.1 t an).2
      .exact nu hb
     .rw[zo _ _ _ _ an]
      refine qG _ _ t ops tr 0 e0 e0 rfl λk o' hk ae=> ?_
      rw[Ad]
      refine(ai k λq=> ?_).symm
      subst q
      rw[aa]at hk;cases hk
      exact an ae
    have e2:(if 3<=zZ q i o then I' else fS (λi=>bM.getD i false) q 0 ops tr cv)=fS (λk=>(bM.setIfInBounds i true).getD k false) q 0 ops tr cv:=by
     split
     .rename_i ah
      refine(Fz _ q ops tr 0 i cv o v I' aa aE (by rw[Ad];exact ah) (by rw[Ad];exact a1) λk' o' a7 a8 aA=> ?_).symm
      rw[Ad]at aA⊢
      rw[ai k' om]
      rcases v8 hd a7 aa a8 with hc|hb
      .have:=(yV hc).1
       rw[zr ah (wF _ _ _) om (wF _ _ _)]at this
       cases this
      .exact nu hb
     .rename_i ah
      refine s8 _ _ q ops tr 0 cv λk o' hk ae=> ?_
      rw[Ad]at ae⊢
      refine(ai k λq=> ?_).symm
      subst q
      rw[aa]at hk;cases hk
      exact ah ae
    grind)
  grind[wpOp]
theorem VW.draw {id:Nat} {Q:Exit->Env->St->Prop} {e:Env} {I:St} (hm:P.follows .mixedOrders) (hn:n0.n<=I.length) (hd:uN ops q) (aa:rQ ops)
  (ht:oS P c nt n0 ops q 0 ops e I tr) (hQ:Q .normal (fE (λ_=>true) 0 ops tr e) (fS (λ_=>true) q 0 ops tr I)):VW P c nt (.region id ops.toArray true) Q e I:=by
 intro a w L J hs
 refine wp_region_any hm ?_
 have hg: ∀j,(Array.replicate ops.toArray.size false).getD j false=false:=(by simp[Array.getD])
 have e1:fE (λi=>(Array.replicate ops.toArray.size false).getD i false) 0 ops tr e=e:=by
  funext t
  grind[JF]
 have e2:fS (λi=>(Array.replicate ops.toArray.size false).getD i false) q 0 ops tr I=I:=(by grind[zp])
 refine YW hn hd aa ht hQ _ _ a w.drew L J sm sm (by grind) ?_
 rw[e1,e2]
 obtain⟨ab,hle⟩:=hs.mem.drew
 exact⟨ab,hs.size,hs.defs,λt=>(hs.env t).mono hle (Ext.refl _ _)⟩
end
def qH:R->Bool
 | .st .. | .dD .. =>true
 |_=>false
def zt:R->Bool
 | .all _| .any _=>true
 |_=>false
def jK (n0:Kp) (k:Nat) (I:St):R->Prop
 | .st _ I'| .dD _ _ I'=>I.length<=I'.length/\(k=3->gV n0 I I')
 |_=>True
def fW (P:Program) (c:Ctx) (nt:Nat) (n0:Kp) (k:Nat) (d:Option Tmp) (op:Op) (K:KT) (e:Env) (I:St):Prop:=
 match op with
 | .call ⟨.value f,args,_⟩=> ∃v I',(if k=0 then∀s,VC P c (zG e f) (args.toList.map (zG e)) s (λr s'=>r=v/\s'=s)else if k=1 then∀s,n0.of s=n0.of I->VC P c (zG e f) (args.toList.map (zG e)) s (λr s'=>r=v/\s'=s)else VC P c (zG e f) (args.toList.map (zG e)) I (λr s=>r=v/\s=I'))/\
   (k<3->I'=I)/\(k=3->gV n0 I I')/\I.length<=I'.length/\fe nt d v K e I'
 |op=>(k<3->db P d e op)/\zt (xX P d e I op)=false/\(k=0->lW op=0)/\(k=1->(∃t x,op= .load t x/\CT n0 (zG e x)=true)\/(∀t x,op≠ .load t x)/\ ∀s,n0.of s=n0.of I->cu P e s op=cu P e I op)/\(qH (xX P d e I op)=true->3<=k)/\jK n0 k I (xX P d e I op)/\ml nt d (xX P d e I op) K e I
def rR (P:Program) (c:Ctx) (nt:Nat) (n0:Kp) (ops:List Oper) (q:List (Nat×Nat)):Nat->List Oper->KT->Env->St->Prop
 |_,[],K,e,I=>K e I
 |i,o::os,K,e,I=>uF o.guard ops e (fW P c nt n0 (zZ q i o) o.dst o.op (rR P c nt n0 ops q (i+1) os K) e I) (fe nt o.dst (.cz []) (rR P c nt n0 ops q (i+1) os K) e I)
section
variable {P:Program} {c:Ctx} {nt:Nat} {n0:Kp}
variable {x:Operand}{t:TypeId}{op:Op}{f:FuncId}{bY:List V}{cj:List V}{KV:V->St->Prop}{ops:List Oper}{i:Nat}{y:Operand}{s1:St}{q:List (Nat×Nat)}{n:Nat}{ts:Array TypeId}
theorem MC {d:Option Tmp} {v:V} {K:KT} {e:Env} {I:St} (h:fe nt d v K e I):(∀t,d=some t->t<nt)/\K (ga e d v) I:=by
 cases d<;>simpa
theorem CW {ops:List Oper} {q:List (Nat×Nat)}: ∀(os:List Oper) (i:Nat) (K:KT) (e:Env) (I:St),rR P c nt n0 ops q i os K e I->
  ∃tr,oS P c nt n0 ops q i os e I tr/\K (fE (λ_=>true) i os tr e) (fS (λ_=>true) q i os tr I)
 | [],i,K,e,I,h=>⟨[],tV,h⟩
 |o::os,i,K,e,I,h=>by
  have go: ∀(v:V) (I':St),Fact P c nt n0 ops q i o e I v I'->rR P c nt n0 ops q (i+1) os K (ga e o.dst v) I'-> ∃tr,oS P c nt n0 ops q i (o::os) e I tr/\K (fE (λ_=>true) i (o::os) tr e) (fS (λ_=>true) q i (o::os) tr I):=by
   intro v I' hf hk
   obtain⟨tr,ht,hK⟩:=CW os (i+1) K _ _ hk
   refine⟨(v,I')::tr,⟨hf,ht⟩, ?_⟩
   rw[fE,fS,ai2 rfl]
   have:(if((λ_=>true) i&&decide (3<=zZ q i o))=true then I' else I)=I':=by
    by_cases h2:3<=zZ q i o
    .grind
    .rw[ai1 (by simp[h2])];exact(hf.2.1 om).symm
   grind
  have yes:(match o.guard with|none=>True|some (j,want)=> ∃t b,j5 ops j=some t/\e t= .bool b/\b=want)->fW P c nt n0 (zZ q i o) o.dst o.op (rR P c nt n0 ops q (i+1) os K) e I->
    ∃tr,oS P c nt n0 ops q i (o::os) e I tr/\K (fE (λ_=>true) i (o::os) tr e) (fS (λ_=>true) q i (o::os) tr I):=by
   intro hg hv
   have af: ∃g:Bool,(match o.guard with|none=>g=true|some (j,want)=> ∃t,j5 ops j=some t/\((∃b,e t= .bool b/\g=(b==want))\/(e t= .cz []/\g=false)))/\g=true:=by
    refine⟨true, ?_,rfl⟩
    grind
   obtain⟨g,ab,rfl⟩:=af
   unfold fW at hv
   split at hv
   .rename_i f args ts aj
    obtain⟨v,I',ak,ah,h3,hlen,hp⟩:=hv
    obtain⟨hd,hk⟩:=MC hp
    refine go v I' ⟨hd,ah,h3,hlen,true,ab, ?_⟩ hk
    grind
   .rename_i al
    obtain⟨an,ad,hz,ao,ae,aa,hv⟩:=hv
    have done: ∀v I',(zZ q i o<3->I'=I)->(zZ q i o=3->gV n0 I I')->I.length<=I'.length->
      ((xX P o.dst e I o.op= .ok v/\I'=I)\/(∃p,xX P o.dst e I o.op= .ez p v/\p/\I'=I)\/(3<=zZ q i o/\(xX P o.dst e I o.op= .st v I'\/ ∃p,xX P o.dst e I o.op= .dD p v I'/\p)))->
      fe nt o.dst v (rR P c nt n0 ops q (i+1) os K) e I'-> ∃tr,oS P c nt n0 ops q i (o::os) e I tr/\K (fE (λ_=>true) i (o::os) tr e) (fS (λ_=>true) q i (o::os) tr I):=by
     intro v I' h2 h3 hlen hf hp
     obtain⟨hd,hk⟩:=MC hp
     refine go v I' ⟨hd,h2,h3,hlen,true,ab, ?_⟩ hk
     grind
    cases hr:xX P o.dst e I o.op with
    |all f=>rw[hr]at ad;trivial
    |any l=>rw[hr]at ad;trivial
    |fail=>rw[hr]at hv;trivial
    |ok v=>rw[hr]at hv;exact done v I sm (λ_=>gV.refl) om (by grind) hv
    |ez p v=>rw[hr]at hv;exact done v I sm (λ_=>gV.refl) om (.inr (.inl ⟨p,hr,hv.1,rfl⟩)) hv.2
    |st v I'=>
     rw[hr]at hv aa
     have h3:=ae (by rw[hr];rfl)
     exact done v I' om aa.2 aa.1 (by grind) hv
    |dD p v I'=>
     rw[hr]at hv aa
     have h3:=ae (by rw[hr];rfl)
     exact done v I' om aa.2 aa.1 (.inr (.inr ⟨h3,.inr ⟨p,hr,hv.1⟩⟩)) hv.2
  have no:(∃j want t,o.guard=some (j,want)/\j5 ops j=some t/\((∃b,e t= .bool b/\b≠want)\/e t= .cz []))->fe nt o.dst (.cz []) (rR P c nt n0 ops q (i+1) os K) e I->
    ∃tr,oS P c nt n0 ops q i (o::os) e I tr/\K (fE (λ_=>true) i (o::os) tr e) (fS (λ_=>true) q i (o::os) tr I):=by
   rintro⟨j,want,t,hg,h1,h2⟩ hv
   obtain⟨hd,hk⟩:=MC hv
   refine go (.cz []) I ⟨hd,λ_=>rfl,λ_=>gV.refl,om,false, ?_, ?_⟩ hk
   all_goals grind
  unfold rR uF at h
  split at h
  .grind
  .rename_i j want hg
   split at h
   .rename_i t ht
    unfold kH at h
    split at h
    .rename_i b hb
     by_cases ai:b=want
     .grind
     .exact no (by grind) (h.2 ai)
    .rename_i hb
     exact no (by grind) h
    grind
   grind
def rS (P:Program) (c:Ctx) (nt:Nat) (n0:Kp) (ops:List Oper) (q:List (Nat×Nat)) (i:Nat) (l:List Oper) (K:KT) (_:Fx ops) (_:Fx l) (_:Fx K) (e:Env) (I:St):Prop:=rR P c nt n0 ops q i l K e I
def eN (P:Program) (c:Ctx) (nt:Nat) (n0:Kp) (k:Nat) (d:Option Tmp) (op:Op) (K:KT) (_:Fx op) (_:Fx K) (e:Env) (I:St):Prop:=fW P c nt n0 k d op K e I
def pT (P:Program) (c:Ctx) (n0:Kp) (k:Nat) (fv:V) (az:List V) (I:St) (K:V->St->Prop) (_:Fx K):Prop:=
 ∃v I',(if k=0 then∀s,VC P c fv az s (λr s'=>r=v/\s'=s)else if k=1 then∀s,n0.of s=n0.of I->VC P c fv az s (λr s'=>r=v/\s'=s)else VC P c fv az I (λr s=>r=v/\s=I'))/\(k<3->I'=I)/\(k=3->gV n0 I I')/\I.length<=I'.length/\K v I'
theorem yI {id:Nat} {Q:QT} {e:Env} {I:St} (q:List (Nat×Nat)) (n0:Nat) (hn:I.length=n0) (hm:P.follows .mixedOrders) (hd:(uN ops q&&rQ ops)) (h:rS P c nt (Kp.pre n0) ops q 0 ops (Q .normal) fx fx fx e I):gG P c nt (.region id ops.toArray true) Q fx fx e I:=by
 simp only[Ac]at hd
 obtain⟨tr,ht,hK⟩:=CW ops 0 (Q .normal) e I h
 exact VW.draw (n0:=Kp.pre n0) hm (by grind) hd.1 hd.2 ht hK
def MD (q:List (Nat×Nat)) (i:Nat) (op:Op):Nat:=match q.find? (·.1==i)with|some p=>min p.2 4|none=>lW op
variable {e:Env} {I:St} {K:KT} {Q:QT} {d:Option Tmp} {k:Nat}
@[go_sem] theorem JK:rS P c nt n0 ops q i [] K fx fx fx e I=K e I:=id rfl
@[go_sem] theorem Hf {rest:List Oper} {ty:TypeId} {pos:String} {dY:Array Edge}:rS P c nt n0 ops q i (⟨d,op,ty,pos,dY,none⟩::rest) K fx fx fx e I=
  eN P c nt n0 (MD q i op) d op (rS P c nt n0 ops q (i+1) rest K fx fx fx) fx fx e I:=id rfl
@[go_sem] theorem FB {rest:List Oper} {ty:TypeId} {pos:String} {dY:Array Edge} {j:Nat} {want:Bool}:rS P c nt n0 ops q i (⟨d,op,ty,pos,dY,some (j,want)⟩::rest) K fx fx fx e I=
  BY (sZ ops fx j) want e (eN P c nt n0 (MD q i op) d op (rS P c nt n0 ops q (i+1) rest K fx fx fx) fx fx e I) (iJ nt d (.cz []) (rS P c nt n0 ops q (i+1) rest K fx fx fx) fx e I) fx fx:=id rfl
attribute [go_sem] MD CT
theorem FC (op:Op) (h:lW op<3):qH (cu P e I op)=false:=by
 cases op with
 |call cl=>
  obtain⟨aa,⟨args⟩,ts⟩:=cl
  cases aa with
  |builtin b=>
   cases b
   case len=>simp only[cu];split<;>first|rfl|(rename_i heq;simp at heq;done)|(unfold ye;(repeat' split)<;>rfl)
   case min=>simp only[cu];unfold qm;(repeat' split)<;>rfl
   case max=>simp only[cu];unfold qm;(repeat' split)<;>rfl
   all_goals trivial
  |_=>rfl
 |slice t x lo hi mx=>cases lo<;>cases hi<;>cases mx<;>simp only[cu]<;>first|rfl|(unfold sK;(repeat' split)<;>rfl)|(unfold yh;(repeat' split)<;>rfl)
 |move x=>rfl
 |assign x=>rfl
 |pick x y z=>simp only[cu];unfold x9;(repeat' split)<;>rfl
 |build t ps=>simp only[cu];unfold yf;(repeat' split)<;>rfl
 |buildSlice t n ps=>simp only[cu];unfold vK;(repeat' split)<;>rfl
 |nilCheck x=>simp only[cu];unfold ya;(repeat' split)<;>rfl
 |binOp o t x y t'=>simp only[cu];unfold vF GJ yr mS BK BL;(repeat' split)<;>rfl
 |unOp o t x=>simp only[cu];unfold nb;(repeat' split)<;>rfl
 |convert t t' x=>simp only[cu];unfold vL;(repeat' split)<;>rfl
 |fieldAddr t x f=>simp only[cu];unfold yc;(repeat' split)<;>rfl
 |field t x f=>simp only[cu];unfold yi;(repeat' split)<;>rfl
 |indexAddr t x i=>simp only[cu];unfold vI;(repeat' split)<;>rfl
 |index t x i=>simp only[cu];unfold vJ;(repeat' split)<;>rfl
 |extract x i=>simp only[cu];unfold yb;(repeat' split)<;>rfl
 |makeFunc fn l m=>simp only[cu];unfold yj;(repeat' split)<;>rfl
 |load t x=>simp only[cu];unfold nf;(repeat' split)<;>first|rfl|(unfold rK;(repeat' split)<;>rfl)
 |_=>first|(simp[lW]at h;done)|rfl
theorem wa (op:Op) (h: ∀o t x y t',op≠ .binOp o t x y t'):zt (cu P e I op)=false:=by
 cases op with
 |call cl=>
  obtain⟨aa,⟨args⟩,ts⟩:=cl
  cases aa with
  |builtin b=>
   cases b
   case len=>simp only[cu];split<;>first|rfl|(rename_i heq;simp at heq;done)|(unfold ye;(repeat' split)<;>rfl)
   case append=>simp only[cu];split<;>first|rfl|(rename_i heq;simp at heq;done)|(unfold sH;(repeat' split)<;>rfl)
   case clear=>simp only[cu];split<;>first|rfl|(rename_i heq;simp at heq;done)|(unfold vO;(repeat' split)<;>rfl)
   case delete=>simp only[cu];split<;>first|rfl|(rename_i heq;simp at heq;done)|(unfold yq;(repeat' split)<;>rfl)
   case min=>simp only[cu];unfold qm;(repeat' split)<;>rfl
   case max=>simp only[cu];unfold qm;(repeat' split)<;>rfl
   all_goals rfl
  |_=>rfl
 |slice t x lo hi mx=>cases lo<;>cases hi<;>cases mx<;>simp only[cu]<;>first|rfl|(unfold sK;(repeat' split)<;>rfl)|(unfold yh;(repeat' split)<;>rfl)
 |pick x y z=>simp only[cu];unfold x9;(repeat' split)<;>rfl
 |alloc t=>simp only[cu];unfold rL;(repeat' split)<;>rfl
 |box t x=>simp only[cu];unfold vH;(repeat' split)<;>rfl
 |store t x y=>simp only[cu];unfold vG;(repeat' split)<;>rfl
 |makeSlice t l m=>simp only[cu];unfold vM;(repeat' split)<;>rfl
 |build t ps=>simp only[cu];unfold yf;(repeat' split)<;>rfl
 |buildSlice t n ps=>simp only[cu];unfold vK;(repeat' split)<;>rfl
 |nilCheck x=>simp only[cu];unfold ya;(repeat' split)<;>rfl
 |binOp o t x y t'=>grind
 |unOp o t x=>simp only[cu];unfold nb;(repeat' split)<;>rfl
 |convert t t' x=>simp only[cu];unfold vL;(repeat' split)<;>rfl
 |fieldAddr t x f=>simp only[cu];unfold yc;(repeat' split)<;>rfl
 |field t x f=>simp only[cu];unfold yi;(repeat' split)<;>rfl
 |indexAddr t x i=>simp only[cu];unfold vI;(repeat' split)<;>rfl
 |index t x i=>simp only[cu];unfold vJ;(repeat' split)<;>rfl
 |extract x i=>simp only[cu];unfold yb;(repeat' split)<;>rfl
 |makeFunc fn l m=>simp only[cu];unfold yj;(repeat' split)<;>rfl
 |load t x=>simp only[cu];unfold nf;(repeat' split)<;>first|rfl|(unfold rK;(repeat' split)<;>rfl)
 |makeMap t r=>simp only[cu];unfold yo;(repeat' split)<;>rfl
 |lookup t x k ok=>simp only[cu];unfold xZ;(repeat' split)<;>rfl
 |mapUpdate t x k v=>simp only[cu];unfold xW;(repeat' split)<;>rfl
 |insert t x k v=>simp only[cu];unfold xW;(repeat' split)<;>rfl
 |range t x=>simp only[cu];unfold yt;(repeat' split)<;>rfl
 |entry x=>simp only[cu];unfold qp;(repeat' split)<;>rfl
 |makeInterface t x=>simp only[cu];unfold yv;(repeat' split)<;>rfl
 |mapEntry t x k=>simp only[cu];unfold wD;(repeat' split)<;>rfl
 |entryStore t x k v=>simp only[cu];unfold xT;(repeat' split)<;>rfl
 |next x b=>cases b<;>simp only[cu]<;>first|rfl|(unfold ni;(repeat' split)<;>first|rfl|contradiction)
 |_=>rfl
theorem zu {r:R} (h:qH r=false):jK n0 k I r:=by
 cases r<;>first|trivial|cases h
theorem ta (hA: ∀o t x y t',op≠ .binOp o t x y t') (hL: ∀e I,ir P e I op=cu P e I op) (h:lW op=0) (hc: ∀f az ts,op≠ .call ⟨.value f,az,ts⟩):eN P c nt n0 0 d op K fx fx e I=eL P c nt d op K fx fx e I:=by
 show fW P c nt n0 0 d op K e I=jB P c nt d op K e I
 have hh:db P d e op:= .inr hL
 unfold fW jB
 split
 .grind
 .have:=FC (P:=P) (e:=e) (I:=I) op om
  split
  .grind
  grind[zu,qF,wa]
theorem ME (hA: ∀o t x y t',op≠ .binOp o t x y t') (h:lW op=0) (hc: ∀f az ts,op≠ .call ⟨.value f,az,ts⟩):eN P c nt n0 0 d op K fx fx e I=sY (db P d e op) (eL P c nt d op K fx fx e I) fx:=by
 show fW P c nt n0 0 d op K e I=(db P d e op/\jB P c nt d op K e I)
 by_cases hh:db P d e op
 .unfold fW jB
  split
  .grind
  .have:=FC (P:=P) (e:=e) (I:=I) op om
   split
   .grind
   grind[zu,qF,wa]
 .unfold fW
  grind
@[go_sem] theorem QO (h:lV e d=false):db P d e op=True:=by grind[db]
theorem MF:db P d e (.load t x):= .inr λ_ _=>rfl
theorem YX:eN P c nt n0 1 d (.load t x) K fx fx e I=sY (CT n0 (zG e x)=true) (eL P c nt d (.load t x) K fx fx e I) fx:=by
 show fW P c nt n0 1 d (.load t x) K e I=(_/\jB P c nt d (.load t x) K e I)
 have:=FC (P:=P) (e:=e) (I:=I) (.load t x) (show 1<3 by omega)
 have h2:jK n0 1 I (cu P e I (.load t x)):=zu this
 have hA:=wa (P:=P) (e:=e) (I:=I) (.load t x) (λ_ _ _ _ _ h=>by cases h)
 simp only[fW,jB,this,h2,qF MF,hA]
 refine propext ⟨λh=> ?_,λh=> ?_⟩
 .grind
 .exact⟨λ_=>MF,tV,om,(by grind),sm,tV,h.2⟩
theorem YY:eN P c nt n0 2 d (.load t x) K fx fx e I=eL P c nt d (.load t x) K fx fx e I:=by
 show fW P c nt n0 2 d (.load t x) K e I=jB P c nt d (.load t x) K e I
 have:=FC (P:=P) (e:=e) (I:=I) (.load t x) (show 1<3 by omega)
 grind[zu,wa,fW,jB,qF,MF]
theorem MG:jK n0 4 I (cu P e I op):=by
 by_cases h:lW op<3
 .grind[zu,FC]
 .cases op with
  |alloc t=>simp only[cu];unfold rL;(repeat' split)<;>first|trivial|exact⟨sm,om⟩
  |box t x=>simp only[cu];unfold vH;(repeat' split)<;>first|trivial|exact⟨sm,om⟩
  |store t x y=>simp only[cu];unfold vG;(repeat' split)<;>first|trivial|exact⟨sm,om⟩
  |makeSlice t l m=>simp only[cu];unfold vM;(repeat' split)<;>first|trivial|exact⟨sm,om⟩
  |makeMap t r=>simp only[cu];unfold yo;(repeat' split)<;>first|trivial|exact⟨sm,om⟩
  |lookup t x k ok=>simp only[cu];unfold xZ;(repeat' split)<;>trivial
  |mapUpdate t x k v=>simp only[cu];unfold xW;(repeat' split)<;>first|trivial|exact⟨sm,om⟩
  |insert t x k v=>simp only[cu];unfold xW;(repeat' split)<;>first|trivial|exact⟨sm,om⟩
  |range t x=>simp only[cu];unfold yt;(repeat' split)<;>first|trivial|exact⟨sm,om⟩
  |entry x=>simp only[cu];unfold qp;(repeat' split)<;>trivial
  |makeInterface t x=>simp only[cu];unfold yv;(repeat' split)<;>trivial
  |mapEntry t x k=>simp only[cu];unfold wD;(repeat' split)<;>first|trivial|exact⟨sm,om⟩
  |entryStore t x s v=>simp only[cu];unfold xT;(repeat' split)<;>first|trivial|exact⟨sm,om⟩
  |next x b=>cases b<;>simp only[cu]<;>first|trivial|(unfold ni;(repeat' split)<;>first|trivial|exact⟨sm,om⟩)
  |call cl=>
   obtain⟨aa,⟨args⟩,ts⟩:=cl
   cases aa with
   |builtin b=>
    cases b
    case append=>simp only[cu];split<;>first|trivial|(rename_i heq;simp at heq;done)|(unfold sH;(repeat' split)<;>first|trivial|exact⟨sm,om⟩)
    case clear=>simp only[cu];split<;>first|trivial|(rename_i heq;simp at heq;done)|(unfold vO;(repeat' split)<;>first|trivial|exact⟨sm,om⟩)
    case delete=>simp only[cu];split<;>first|trivial|(rename_i heq;simp at heq;done)|(unfold yq;(repeat' split)<;>first|trivial|exact⟨sm,om⟩)
    all_goals first|(simp[lW]at h;done)|trivial
   |_=>trivial
  |slice t x lo hi mx=>grind[lW]
  |_=>first|(simp[lW]at h;done)|trivial
theorem QP (op:Op) (hA: ∀o t x y t',op≠ .binOp o t x y t') (hN: ∀x b,op≠ .next x b):zt (ir P e I op)=false:=by
 have h:=wa (P:=P) (e:=e) (I:=I) op hA
 cases op with
 |buildSlice t n ps=>simp only[ir];unfold vP;(repeat' split)<;>rfl
 |makeSlice t l m=>simp only[ir];unfold vN;(repeat' split)<;>rfl
 |convert t t' x=>simp only[ir];unfold yk;(repeat' split)<;>rfl
 |slice t x lo hi mx=>
  cases lo with
  |none=>exact h
  |some lo=>cases hi with
   |some _=>exact h
   |none=>cases mx with
    |some _=>exact h
    |none=>simp only[ir];unfold yg;(repeat' split)<;>rfl
 |next x b=>grind
 |call cl=>
  obtain⟨aa,⟨args⟩,ts⟩:=cl
  cases aa with
  |builtin b=>
   cases b
   case append=>simp only[ir];split<;>first|exact h|(rename_i heq;simp at heq;done)|(unfold sI;(repeat' split)<;>rfl)
   all_goals simpa
  |_=>exact h
 |_=>exact h
theorem YZ:jK n0 4 I (ir P e I op):=by
 have h:jK n0 4 I (cu P e I op):=MG
 cases op with
 |buildSlice t n ps=>simp only[ir];unfold vP;(repeat' split)<;>first|trivial|exact⟨sm,om⟩
 |makeSlice t l m=>simp only[ir];unfold vN;(repeat' split)<;>first|trivial|exact⟨sm,om⟩
 |convert t t' x=>simp only[ir];unfold yk;(repeat' split)<;>first|trivial|exact⟨sm,om⟩
 |slice t x lo hi mx=>
  cases lo with
  |none=>exact h
  |some lo=>cases hi with
   |some _=>exact h
   |none=>cases mx with
    |some _=>exact h
    |none=>simp only[ir];unfold yg;(repeat' split)<;>first|trivial|exact⟨sm,om⟩
 |next x b=>cases b<;>simp only[ir]<;>first|exact h|(unfold ni;(repeat' split)<;>first|trivial|exact⟨sm,om⟩)
 |call cl=>
  obtain⟨aa,⟨args⟩,ts⟩:=cl
  cases aa with
  |builtin b=>
   cases b
   case append=>simp only[ir];split<;>first|exact h|(rename_i heq;simp at heq;done)|(unfold sI;(repeat' split)<;>first|trivial|exact⟨sm,om⟩)
   all_goals simpa
  |_=>exact h
 |_=>exact h
theorem MH (hA: ∀o t x y t',op≠ .binOp o t x y t') (hN: ∀x b,op≠ .next x b) (hc: ∀f az ts,op≠ .call ⟨.value f,az,ts⟩):eN P c nt n0 4 d op K fx fx e I=eL P c nt d op K fx fx e I:=by
 show fW P c nt n0 4 d op K e I=jB P c nt d op K e I
 have h1:zt (xX P d e I op)=false:=by
  grind[xX,QP,wa]
 have h2:jK n0 4 I (xX P d e I op):=by
  grind[xX,YZ,MG]
 unfold fW jB
 grind
theorem JL (hA: ∀o t x y t',op≠ .binOp o t x y t') (hN: ∀x b,op≠ .next x b) (_: ∀e I,ir P e I op=cu P e I op) (hc: ∀f az ts,op≠ .call ⟨.value f,az,ts⟩):eN P c nt n0 4 d op K fx fx e I=eL P c nt d op K fx fx e I:=MH hA hN hc
theorem JM (hA: ∀o t x y t',op≠ .binOp o t x y t') (hL: ∀e I,ir P e I op=cu P e I op) (h2:jK n0 3 I (cu P e I op)) (hc: ∀f az ts,op≠ .call ⟨.value f,az,ts⟩):eN P c nt n0 3 d op K fx fx e I=eL P c nt d op K fx fx e I:=by
 show fW P c nt n0 3 d op K e I=jB P c nt d op K e I
 have hh:db P d e op:= .inr hL
 unfold fW jB
 split
 .grind
 .split
  .grind
  grind[qF,wa]
def Kp.out (k:Kp) (id:Nat):Bool:=(decide (id<k.x)&&k.ob.isNone)||decide (k.n<=id)
@[go_sem] theorem Kp.JN {id:Nat}:(Kp.mk 0 n [] none).out id=decide (n<=id):=by rfl
@[go_sem] theorem Kp.JO {x id:Nat}:(Kp.mk (x+1) n [] none).out id=(decide (id<x+1)||decide (n<=id)):=by simp[Kp.out]
def nu (n0:Kp):V->Bool
 | .ptr id _=>n0.out id
 | .iH id _ _ _ _=>n0.out id
 |_=>false
attribute [go_sem] nu
@[go_sem] theorem zw (h:nu n0 (zG e x)):eN P c nt n0 3 d (.store t x y) K fx fx e I=eL P c nt d (.store t x y) K fx fx e I:=
 JM sm (λ_ _=>rfl) (by
  simp only[cu]
  unfold vG
  split
  .rename_i id off hx
   rw[hx]at h
   have h:n0.out id:=h
   simp only[Kp.out,Ce,Ac,Option.isNone_iff_eq_none,ai7]at h
   (repeat' split)<;>first|trivial|exact⟨sm,λ_=> .inr (Kp.iU h)⟩
  .rename_i id s n k j hx
   rw[hx]at h
   have h:n0.out id:=h
   simp only[Kp.out,Ce,Ac,Option.isNone_iff_eq_none,ai7]at h
   (repeat' split)<;>first|trivial|exact⟨sm,λ_=> .inr (Kp.iU h)⟩
  trivial) sm
@[go_sem] theorem FD:eN P c nt n0 0 d (.move x) K fx fx e I=eL P c nt d (.move x) K fx fx e I:=ta sm (λ_ _=>rfl) rfl sm
@[go_sem] theorem zy:eN P c nt n0 0 d (.assign x) K fx fx e I=eL P c nt d (.assign x) K fx fx e I:=ta sm (λ_ _=>rfl) rfl sm
@[go_sem] theorem FE {z:Operand}:eN P c nt n0 0 d (.pick x y z) K fx fx e I=eL P c nt d (.pick x y z) K fx fx e I:=ta sm (λ_ _=>rfl) rfl sm
@[go_sem] theorem CX {l:Array (Nat×Operand)}:eN P c nt n0 0 d (.build t l) K fx fx e I=eL P c nt d (.build t l) K fx fx e I:=ta sm (λ_ _=>rfl) rfl sm
@[go_sem] theorem rT {l:Array (Nat×Operand)}:eN P c nt n0 0 d (.buildSlice t n l) K fx fx e I=sY (db P d e (.buildSlice t n l)) (eL P c nt d (.buildSlice t n l) K fx fx e I) fx:=ME sm rfl sm
@[go_sem] theorem Hg:eN P c nt n0 0 d (.nilCheck x) K fx fx e I=eL P c nt d (.nilCheck x) K fx fx e I:=ta sm (λ_ _=>rfl) rfl sm
theorem Y0 {op:BinOp} {t':TypeId}:eN P c nt n0 0 d (.binOp op t x y t') K fx fx e I=sY (zt (wh (pS y) (vF op (iR P t) (zG e x)) (wh (rN y) (yr op (nh P t) (zG e x)) (mS op (iR P t) (kE P t) (zG e x) (zG e y))))=false) (eL P c nt d (.binOp op t x y t') K fx fx e I) fx:=by
 show fW P c nt n0 0 d (.binOp op t x y t') K e I=(zt (cu P e I (.binOp op t x y t'))=false/\jB P c nt d (.binOp op t x y t') K e I)
 have hh:db P d e (.binOp op t x y t'):= .inr λ_ _=>rfl
 grind[FC,zu,fW,jB,qF,lW]
attribute [go_sem] Y0 zt
@[go_sem] theorem JP {op:UnOp}:eN P c nt n0 0 d (.unOp op t x) K fx fx e I=eL P c nt d (.unOp op t x) K fx fx e I:=ta sm (λ_ _=>rfl) rfl sm
@[go_sem] theorem FF {t':TypeId}:eN P c nt n0 0 d (.convert t t' x) K fx fx e I=sY (db P d e (.convert t t' x)) (eL P c nt d (.convert t t' x) K fx fx e I) fx:=ME sm rfl sm
@[go_sem] theorem CY {lo hi mx:Option Operand}:eN P c nt n0 0 d (.slice t x lo hi mx) K fx fx e I=sY (db P d e (.slice t x lo hi mx)) (eL P c nt d (.slice t x lo hi mx) K fx fx e I) fx:=ME sm rfl sm
@[go_sem] theorem tc {f:Nat}:eN P c nt n0 0 d (.fieldAddr t x f) K fx fx e I=eL P c nt d (.fieldAddr t x f) K fx fx e I:=ta sm (λ_ _=>rfl) rfl sm
@[go_sem] theorem wg {i:Operand}:eN P c nt n0 0 d (.indexAddr t x i) K fx fx e I=eL P c nt d (.indexAddr t x i) K fx fx e I:=ta sm (λ_ _=>rfl) rfl sm
@[go_sem] theorem Hh {i:Operand}:eN P c nt n0 0 d (.index t x i) K fx fx e I=eL P c nt d (.index t x i) K fx fx e I:=ta sm (λ_ _=>rfl) rfl sm
@[go_sem] theorem wi:eN P c nt n0 0 d (.extract x i) K fx fx e I=eL P c nt d (.extract x i) K fx fx e I:=ta sm (λ_ _=>rfl) rfl sm
@[go_sem] theorem Hi {l:Array Operand}:eN P c nt n0 0 d (.call ⟨.builtin .len,l,ts⟩) K fx fx e I=eL P c nt d (.call ⟨.builtin .len,l,ts⟩) K fx fx e I:=ta sm (λ_ _=>rfl) rfl sm
@[go_sem] theorem CZ:eN P c nt n0 4 d (.store t x y) K fx fx e I=eL P c nt d (.store t x y) K fx fx e I:=JL sm sm (λ_ _=>rfl) sm
@[go_sem] theorem z6 {l:Array Operand}:eN P c nt n0 4 d (.call ⟨.builtin .append,l,ts⟩) K fx fx e I=eL P c nt d (.call ⟨.builtin .append,l,ts⟩) K fx fx e I:=(by simp[MH])
@[go_sem] theorem DA:eN P c nt n0 3 d (.alloc t) K fx fx e I=eL P c nt d (.alloc t) K fx fx e I:=JM sm (λ_ _=>rfl) (by
 simp only[cu];unfold rL;split<;>first|trivial|exact⟨sm,λ_=> .inl ⟨_,rfl⟩⟩) sm
attribute [go_sem] YX YY
@[go_sem] theorem FG {f:Operand} {l:List Operand}:eN P c nt n0 k d (.call ⟨.value f,l.toArray,ts⟩) K fx fx e I=pT P c n0 k (zG e f) (l.map (zG e)) I (Mt nt d K fx e) fx:=id rfl
attribute [go_sem] lW
theorem wP {args:List V} {v:V} (hc:Pure P f cj v) (hb:xE P f) (aa: ∀N,bP (cP (cK [] N)) cj (args++bY)) (hn:gM v) (hk:KV v I):
  pT P c n0 0 (.fn f bY) args I KV fx:=by
 refine⟨v,I, ?_,λ_=>rfl,om,om,hk⟩
 rw[ai2 rfl]
 exact λs=>zL (P:=P) (c:=c) (KV:=λr s'=>r=v/\s'=s) hc hb (aa _) hn sm
theorem FH {dg:aiB} {I:St}:(yX dg I s1).length=I.length+(s1.length - dg.length):=by
 grind[yX,nk]
theorem QQ {args:List V} {fj:St} {v:V} (hc:bN P f cj fj (λr s=>r=v/\s=s1)) (hb:xE P f) (dg:aiB) (ab:dg.Nodup) (hlen:fj.length=dg.length)
  (ad: ∀(i j:Nat) (o:Ob),dg[i]? =some j->fj[i]? =some o->I[j]? =some (yA (cK dg I.length) o)) (aa:bP (cP (cK dg I.length)) cj (args++bY))
  (hk:KV (dH (cK dg I.length) v) (yX dg I s1)):pT P c n0 4 (.fn f bY) args I KV fx:=by
 refine⟨_,_, ?_,om,om,by grind[FH],hk⟩
 rw[ai1 dC,ai1 dC]
 refine VC.of hc hb dg ab hlen ad aa ?_
 simp
theorem FI {args:List V} {fj:St} {v:V} (hc:bN P f cj fj (λr s=>r=v/\s=s1)) (hb:xE P f) (dg:aiB) (ab:dg.Nodup) (hlen:fj.length=dg.length)
  (ad: ∀(i j:Nat) (o:Ob),dg[i]? =some j->fj[i]? =some o->I[j]? =some (yA (cK dg I.length) o)) (aa:bP (cP (cK dg I.length)) cj (args++bY)) (ae:gV n0 I (yX dg I s1))
  (hk:KV (dH (cK dg I.length) v) (yX dg I s1)):pT P c n0 3 (.fn f bY) args I KV fx:=by
 refine⟨_,_, ?_,om,(by grind),by grind[FH],hk⟩
 rw[ai1 dC,ai1 dC]
 refine VC.of hc hb dg ab hlen ad aa ?_
 simp
theorem FJ {args:List V} {v:V} (hc:bN P f cj [] (λr s=>r=v/\s=s1)) (hb:xE P f)
  (aa:bP (cP (cK [] I.length)) cj (args++bY)) (hk:KV (dH (cK [] I.length) v) (I++s1.map (yA (cK [] I.length)))):pT P c n0 3 (.fn f bY) args I KV fx:=by
 have e:yX [] I s1=I++s1.map (yA (cK [] I.length)):=by rfl
 exact FI hc hb [] C0 rfl sm aa (.inl ⟨_,e⟩) (by grind)
theorem Y1 {args:List V} {v:V} (hc:Pure P f cj v) (hb:xE P f) (hf: ∀s,n0.of s=n0.of I-> ∃aa I1,oq (args++bY) s aa I1/\bP (cP (cK [] I1.length)) cj aa)
  (ab:GV v) (hk:KV v I):pT P c n0 1 (.fn f bY) args I KV fx:=by
 refine⟨v,I, ?_,λ_=>rfl,om,om,hk⟩
 rw[ai1 dC,ai2 rfl]
 intro s hs
 obtain⟨aa,I1,h1,h2⟩:=hf s hs
 exact VC.view hc hb h1 h2 (by grind) sm
end
def At (n0:Nat) (keep:aiB) (vs:List V) (s:St) (e:Env) (I:St):Prop:=
 ∃pick,gE n0 pick I s/\bP (cP (cK pick I.length)) vs (keep.map e)
def Next {S:Type} (p:S->Prop) (_:Fx p):Prop:= ∃s,p s
theorem zJ {S:Type} {p:S->Prop} (s:S) (h:p s):Next p fx:=⟨s,h⟩
section
variable {P:Program} {c:Ctx} {nt:Nat} {e:Env} {I:St} {a:Act} {w:World} {L:Nat->Nat} {J:aiC} {Q:QT} {n0:Nat}
variable {keep:aiB}{vs:List V}{y:Code}{f:FuncId}{code:Code}{x:Code}{fn:Func}{rs:List ResultVar}{bY:List V}{cj:List V}{KV:V->St->Prop}
theorem zA (h:ot P c nt code Q fx fx e I):gG P c nt code Q fx fx e I:=rO code Q e I h
theorem JQ {K:KT} (h:gG P c nt x (yy K Q fx fx) fx fx e I) (hy: ∀e' I',K e' I'->gG P c nt y Q fx fx e' I'):gG P c nt (.seq x y) Q fx fx e I:=by
 intro a w L J hs
 refine wp_seq (wp_mono (h a w L J hs) λex a' w' q=> ?_)
 cases ex with
 |normal=>obtain⟨e',I',L',J',aa,hq⟩:=q;exact hy e' I' hq a' w' L' J' aa
 |exit id=>exact q
 |goto l=>exact q
 |ret=>exact q
 |panic ch=>exact q
 |outgrown=>exact q
theorem zO (h:gG P c nt x (yy (gG P c nt y Q fx fx) Q fx fx) fx fx e I):gG P c nt (.seq x y) Q fx fx e I:=(by grind[JQ])
theorem z7 {id:Nat} {b:Code} (h:gG P c nt b (qC id Q fx) fx fx e I):gG P c nt (.block id b) Q fx fx e I:=by
 intro a w L J hs
 refine wp_block (wp_mono (h a w L J hs) λex a' w' q=> ?_)
 cases ex with
 |exit aa=>
  obtain⟨e',I',L',J',ab,hq⟩:=q
  change (if aa=id then Q .normal e' I' else Q (.exit aa) e' I')at hq
  change (if aa=id then fw c nt Q .normal a' w' else fw c nt Q (.exit aa) a' w')
  split
  .rename_i hid
   rw[ai2 hid]at hq
   exact⟨e',I',L',J',ab,hq⟩
  .rename_i hid
   rw[ai1 hid]at hq
   exact⟨e',I',L',J',ab,hq⟩
 |normal=>exact q
 |goto l=>exact q
 |ret=>exact q
 |panic ch=>exact q
 |outgrown=>exact q
theorem JR {b:Bool} {x:Operand} {t f:Code} (hx:zG e x= .bool b) (ht:b=true->gG P c nt t Q fx fx e I) (hf:b=false->gG P c nt f Q fx fx e I):gG P c nt (.cond x t f) Q fx fx e I:=by
 intro a w L J hs
 have hv:=hs.eval x
 rw[hx]at hv
 exact wp_cond_split (pQ hv) (λh=>ht h a w L J hs) (λh=>hf h a w L J hs)
theorem Y2 {s:St} (hn:c.cv.length=n0) (hc:c.β0.length=c.cv.length) (hk:At n0 keep vs s e I) (hy:gG P c nt y Q fx fx (nr (keep.zip vs)) s):gG P c nt y Q fx fx e I:=by
 intro a w L J hs
 subst hn
 obtain⟨pick,hp,aa⟩:=hk
 obtain⟨gZ,s',J',⟨rfl,rfl⟩,_,ab⟩:=Ms (Inv:=λgZ s' _=>gZ=vs/\s'=s) (m:=0) hs hc ⟨vs,s,pick,hp,aa,rfl,rfl⟩
 exact hy a w L J' ab
theorem ou {S:Type} (keep:aiB) (aa:S->List V) (ab:S->St) (uU:S->Prop) (hn:c.cv.length=n0) (hc:c.β0.length=c.cv.length)
  (hx:gG P c nt x (yy (λe' I'=>Next (λs=>uU s/\At n0 keep (aa s) (ab s) e' I') fx) Q fx fx) fx fx e I)
  (hy: ∀s,uU s->gG P c nt y Q fx fx (nr (keep.zip (aa s))) (ab s)):gG P c nt (.seq x y) Q fx fx e I:=
 JQ hx λ_ _ ⟨s,hI,ad⟩=>(by grind[Y2])
theorem zI {body:Code} {S:Type} (keep:aiB) (aa:S->List V) (ad:S->St) (ab:S->Nat) (uU:S->Prop) (hn:c.cv.length=n0) (hc:c.β0.length=c.cv.length)
  (s0:S) (hI:uU s0) (h0:At n0 keep (aa s0) (ad s0) e I)
  (hr: ∀s,uU s->gG P c nt body (yy (λe' I'=>Next (λs'=>ab s'<ab s/\uU s'/\At n0 keep (aa s') (ad s') e' I') fx) Q fx fx) fx fx (nr (keep.zip (aa s))) (ad s)):gG P c nt (.loop body) Q fx fx e I:=by
 subst hn
 intro a w L J hs
 refine QI (λm a w=> ∃s L J,m=ab s/\uU s/\dS c nt (nr (keep.zip (aa s))) (ad s) a w L J) (ab s0) ?_ ?_
 .obtain⟨pick,hp,ae⟩:=h0
  obtain⟨gZ,s',J',⟨rfl,rfl⟩,_,af⟩:=Ms (Inv:=λgZ s' _=>gZ=aa s0/\s'=ad s0) (m:=0) hs hc ⟨_,_,pick,hp,ae,rfl,rfl⟩
  grind
 .rintro m a w ⟨s,L,J,rfl,ah,hs⟩
  refine wp_mono (hr s ah a w L J hs) λx a' w' q=> ?_
  cases x with
  |normal=>
   obtain⟨e',I',L',J',af,s',ai,aj,pick,hp,ae⟩:=q
   obtain⟨gZ,s2,J2,⟨rfl,rfl⟩,_,ak⟩:=Ms (Inv:=λgZ s2 _=>gZ=aa s'/\s2=ad s') (m:=0) af hc ⟨_,_,pick,hp,ae,rfl,rfl⟩
   exact⟨ab s',ai,s',L',J2,rfl,aj,ak⟩
  |exit id=>exact q
  |goto l=>exact q
  |ret=>exact q
  |panic ch=>exact q
  |outgrown=>exact q
theorem zP {ρ:Nat->Nat} {l m:List V} (h:l=m) (hn:l.all gM):bP (cP ρ) l m:=by grind[yE]
theorem rU {n N:Nat}: ∀{l:List V},l.all (iS n)=true->bP (cP (cK (List.range n) N)) l l
 | [],_=>trivial
 |v::l,h=>by
  simp only[Bt,Ac]at h
  exact⟨xQ h.1,rU h.2⟩
theorem zD {n N:Nat} {l m:List V} (h:l=m) (hn:l.all (iS n)):bP (cP (cK (List.range n) N)) l m:=by grind[rU]
theorem iu {QR:Nat} (hN:I.length=QR) (h:bP (cP (cK [] QR)) vs (keep.map e)):At 0 keep vs [] e I:=by
 subst hN
 exact⟨[],⟨rfl,C0,sm,om⟩,h⟩
theorem cc (k:Nat) {s:St} (hs:I.take k=s) (hk:s.length=k) (db:s.all (bT k)) (hn:n0<=k) (h:bP (cP (cK (List.range k) I.length)) vs (keep.map e)):At n0 keep vs s e I:=by
 subst hs
 have h1:I.take k++I.drop k=I:=sm
 have hp:=QL (n0:=n0) (s:=I.take k) (loc:=I.drop k) (by rw[hk];exact db) (by rw[hk];exact hn)
 rw[h1,hk]at hp
 exact⟨_,hp,h⟩
theorem DB (pick:aiB) {s:St} (ab:pick.Nodup) (hn:n0=0) (aa:bP (λo j=>I[j]? =some (yA (cK pick I.length) o)) s pick) (h:bP (cP (cK pick I.length)) vs (keep.map e)):At n0 keep vs s e I:=by
 subst hn
 refine⟨pick,⟨aa.length,ab,λi j o hi ho=> ?_,om⟩,h⟩
 obtain⟨j',ad,hr⟩:=aa.get i o ho
 grind
theorem bN.iv {nt:Nat} {args:List V} {R:V->St->Prop} (n0:Nat) (hf:P.funcs[f]? =some fn) (aa:fn.ntmps=nt) (ab:fn.results=rs.toArray) (hb:fn.body=some code) (h0:I.length=n0) (ad:args.length<=nt)
  (h: ∀c:Ctx,c.cv.length=n0->c.β0.length=c.cv.length->gG P c nt code (mu P rs n0 R) fx fx (j7 0 args) I):bN P f args I R:=bN.oP n0 hf aa ab hb h0 ad h
theorem uO (t:Nat) (hn:nt<=100000) (hy:gG P c nt y Q fx fx (fu e (100000+t) (.cz [])) I):gG P c nt y Q fx fx e I:=by
 intro a w L J hs
 refine hy a w L J ⟨hs.mem,hs.size,hs.defs,λk=> ?_⟩
 simp only[fu]
 split
 .rename_i hk
  subst hk
  refine⟨[], ?_,tV⟩
  have: ¬(100000+t<a.tmps.size):=by rw[hs.size];omega
  simp[Array.getD,this,undef]
 .exact hs.env k
theorem FK (id s:Nat) (rows:List (List V)) (cJ:I[id]? =some (.cd rows s)) (hp:xI rows) (hy:gG P c nt y Q fx fx (λt=>gp id rows (e t)) (jJ id rows I)):gG P c nt y Q fx fx e I:=by
 intro a w L J hs
 obtain⟨h1,h2,h3,h4⟩:=Qy hs.mem cJ hp
 exact hy a w _ J ⟨h1,hs.size,hs.defs,λt=>h4 _ _ (hs.env t)⟩
theorem QS {args ab:List V} {v:V} {I1:St} (hc:Pure P f cj v) (hb:xE P f) (hf:oq (args++bY) I ab I1)
  (aa:bP (cP (cK [] I1.length)) cj ab) (ad:GV v) (hk:KV v I):jk P c (.fn f bY) args I KV fx:=
 VC.view hc hb hf aa (by grind) (by grind)
attribute [go_sem] gp gn gu fZ np jJ
attribute [go_sem] Dz List.zip_nil_left List.zip_nil_right
theorem iV {nt:Nat} {args:List V} {R:V->St->Prop} (n0:Nat) (hf:P.funcs[f]? =some fn) (aa:fn.ntmps=nt) (ab:fn.results=rs.toArray)
  (h: ∀c:Ctx,c.cv.length=n0->c.β0.length=c.cv.length->gG P c nt code (mu P rs n0 R) fx fx (j7 0 args) I) (hb:fn.body=some code:=by rfl) (h0:I.length=n0:=by rfl) (ad:args.length<=nt:=by exact C4 rfl):bN P f args I R:=(by simp_all[bN.iv])
theorem iW {nt:Nat} {args:List V} {R:V->St->Prop} (n0:Nat) (hf:P.funcs[f]? =some fn) (aa:fn.ntmps=nt) (ab:fn.results=rs.toArray)
  (h: ∀c:Ctx,c.cv.length=n0->c.β0.length=c.cv.length->qv P c nt code (mu P rs n0 R) (j7 0 args) I) (hb:fn.body=some code:=by rfl) (h0:I.length=n0:=by rfl) (ad:args.length<=nt:=by exact C4 rfl):bN P f args I R:=(by simp_all[bN.intro])
theorem aN (k:Nat) {s:St} (db:s.all (bT k)) (hs:I.take k=s:=by simp[go_sem]) (hk:s.length=k:=by rfl) (hn:n0<=k:=by omega) (h:vs=keep.map e:=by simp[go_sem]) (hv:vs.all (iS k)=true:=by rfl):At n0 keep vs s e I:=(by grind[cc,zD])
theorem aM (k:Nat) {s:St} (db:s.all (bT k)) (h:bP (cP (cK (List.range k) I.length)) vs (keep.map e)) (hs:I.take k=s:=by simp[go_sem]) (hk:s.length=k:=by rfl) (hn:n0<=k:=by omega):At n0 keep vs s e I:=(by grind[cc])
theorem aO (h:vs=keep.map e:=by simp[go_sem]) (hv:vs.all gM=true:=by rfl):At 0 keep vs [] e I:=iu rfl (zP h hv)
theorem pC {args:List V} {v:V} (hc:Pure P f cj v) (hk:KV v I) (aa:bP (cP (cK [] I.length)) cj (args++bY):=by first|exact yE rfl|exact⟨zK,yE rfl⟩|exact⟨zK,zK,yE rfl⟩|exact⟨zC rfl,zK,yE rfl⟩|exact⟨zK,zK,zK,yE rfl⟩|exact⟨zK,zC rfl,zK,yE rfl⟩|exact⟨zC rfl,zK,zK,yE rfl⟩|exact⟨zC rfl,zC rfl,zK,yE rfl⟩|exact⟨zK,zK,zK,zK,yE rfl⟩|exact⟨zK,zK,zC rfl,zK,yE rfl⟩|exact⟨zK,zC rfl,zK,zK,yE rfl⟩|exact⟨zK,zC rfl,zC rfl,zK,yE rfl⟩|exact⟨zC rfl,zK,zK,zK,yE rfl⟩|exact⟨zC rfl,zK,zC rfl,zK,yE rfl⟩|exact⟨zC rfl,zC rfl,zK,zK,yE rfl⟩|exact⟨zC rfl,zC rfl,zC rfl,zK,yE rfl⟩)
  (hb:xE P f=true:=by kernel_rfl) (hn:gM v=true:=by rfl):jk P c (.fn f bY) args I KV fx:=(by grind[zL])
theorem pD {n0:Kp} {args:List V} {v:V} (hc:Pure P f cj v) (hk:KV v I) (aa: ∀N,bP (cP (cK [] N)) cj (args++bY):=by first|exact λ_=>yE rfl|exact λ_=>⟨zK,yE rfl⟩|exact λ_=>⟨zK,zK,yE rfl⟩|exact λ_=>⟨zC rfl,zK,yE rfl⟩|exact λ_=>⟨zK,zK,zK,yE rfl⟩|exact λ_=>⟨zK,zC rfl,zK,yE rfl⟩|exact λ_=>⟨zC rfl,zK,zK,yE rfl⟩|exact λ_=>⟨zC rfl,zC rfl,zK,yE rfl⟩|exact λ_=>⟨zK,zK,zK,zK,yE rfl⟩|exact λ_=>⟨zK,zK,zC rfl,zK,yE rfl⟩|exact λ_=>⟨zK,zC rfl,zK,zK,yE rfl⟩|exact λ_=>⟨zK,zC rfl,zC rfl,zK,yE rfl⟩|exact λ_=>⟨zC rfl,zK,zK,zK,yE rfl⟩|exact λ_=>⟨zC rfl,zK,zC rfl,zK,yE rfl⟩|exact λ_=>⟨zC rfl,zC rfl,zK,zK,yE rfl⟩|exact λ_=>⟨zC rfl,zC rfl,zC rfl,zK,yE rfl⟩)
  (hb:xE P f=true:=by kernel_rfl) (hn:gM v=true:=by rfl):pT P c n0 0 (.fn f bY) args I KV fx:=(by grind[wP])
theorem wR {R:V->St->Prop} {v r:V} (hr:cP (cK [] I.length) r v:=by exact zC rfl) (hR:R r []:=by exact⟨rfl,rfl⟩):cw (some v) 0 R I:=zW hr hR
end
end Go.Vx
