/-
  Walks with cuts: a statement's end held by the slots that are read later, what follows proved once.
  No condition: a library text; nothing of the program is named.
-/
import Derived.Test.YtplackkccmeioaaGreatKBAC
import Derived.Orders
set_option maxHeartbeats 8000000
namespace Go.Vx
open Go
section
variable {P:Program} {c:Ctx} {nt:Nat} {e:Env} {I:St} {a:Act} {w:World} {L:Nat->Nat} {J:ahR}
variable {fn:Func}{code:Code}
def jS:Nat->List V->Env
 |_,[]=>n9
 |i,v::vs=>fm (jS (i+1) vs) i v
theorem LB: ∀(vs:List V) (i t:Nat),jS i vs (i+t)=vs.getD t .u
 | [],_,_=>by rfl
 |v::vs,i,0=>by simp[jS,fm]
 |v::vs,i,t+1=>by
  simp only[jS,fm]
  rw[ahf om]
  have:=LB vs (i+1) t
  grind
def Eo (P:Program) (e:Env) (I:St):ResultVar->Option V
 | .tmp t=>some (e t)
 | .cell t T=>(match mL P T I (e t)with| .ok v=>some v|_=>none)
def AV (P:Program) (e:Env) (I:St):List ResultVar->Option (List V)
 | []=>some []
 |r::rs=>(match Eo P e I r,AV P e I rs with|some v,some vs=>if mJ v=true then some (v::vs)else none|_,_=>none)
def lO (P:Program) (rs:List ResultVar) (e:Env) (I:St):Option V:=
 match rs with
 | [r]=>Eo P e I r
 |rs=>(AV P e I rs).map .cy
def sk (a:Act):ResultVar->Sem Value
 | .tmp t=>pure (a.tmps.getD t undef)
 | .cell t T=>do loadVar T (<-asAddr (a.tmps.getD t undef))
theorem XW (fn:Func) (a:Act):results fn a.tmps=(do let vs<-fn.results.mapM (sk a);pure (if h:vs.size=1 then vs[0]else .tuple vs)):=by
 rfl
theorem P2 (h:dP c nt e I a w L J) {r:ResultVar} {v:V} (hv:Eo P e I r=some v):
  ∃x,(sk a r).run P w= .ok x w/\dt w L I J v x:=by
 cases r with
 |tmp t=>
  simp only[Eo,ahk]at hv
  subst hv
  exact⟨_,rfl,h.env t⟩
 |cell t T=>
  simp only[Eo]at hv
  split at hv
  .rename_i v' hl
   simp only[ahk]at hv
   subst hv
   obtain⟨bl,off,z,hy,hz,r⟩:=Pj (P:=P) T h.mem (h.env t) hl
   grind[sk,asAddr]
  grind
theorem P3 (h:dP c nt e I a w L J): ∀(rs:List ResultVar) (vs:List V),AV P e I rs=some vs->
  ∃xs:ahR,(rs.mapM (sk a)).run P w= .ok xs w/\bP (dW w L I J) vs xs/\xs.length=rs.length
 | [],vs,hv=>by
  simp only[AV,ahk]at hv
  subst hv
  exact⟨[],rfl,tV,rfl⟩
 |r::rs,vs,hv=>by
  simp only[AV]at hv
  split at hv
  .rename_i v gT h1 h2
   split at hv
   .rename_i hh
    simp only[ahk]at hv
    subst hv
    obtain⟨x,hx,hr⟩:=P2 (P:=P) h h1
    obtain⟨xs,aa,ab,hl⟩:=P3 h rs gT h2
    refine⟨x::xs, ?_,⟨Ei hr hh,ab⟩,by simp[hl]⟩
    rw[List.mapM_cons]
    simp only[Sem.run_bind,hx,Result.andThen_ok,aa,Sem.run_pure]
   .cases hv
  .cases hv
theorem XX (h:dP c nt e I a w L J) {v:V} (hv:lO P fn.results.toList e I=some v): ∃x,(results fn a.tmps).run P w= .ok x w/\dt w L I J v x:=by
 have ab: ∀xs:ahR,(fn.results.toList.mapM (sk a)).run P w= .ok xs w->
   (results fn a.tmps).run P w= .ok (if hs:xs.toArray.size=1 then xs.toArray[0]else .tuple xs.toArray) w:=by
  grind[XW,Array.mapM_eq_mapM_toList,Sem.run_bind,Sem.run_map,Result.andThen_ok,Sem.run_pure]
 unfold lO at hv
 split at hv
 .rename_i r hr
  obtain⟨x,hx,ad⟩:=P2 (P:=P) h hv
  simp_all
 .rename_i rs ae
  cases ha:AV P e I fn.results.toList with
  |none=>grind
  |some vs=>
   rw[ha]at hv
   simp only[Bf,ahk]at hv
   subst hv
   obtain⟨xs,af,aa,hl⟩:=P3 (P:=P) h _ _ ha
   refine⟨.tuple xs.toArray, ?_,xs,rfl,aa⟩
   have hn: ¬xs.toArray.size=1:=by
    intro q
    simp only[List.size_toArray]at q
    rw[hl]at q
    obtain⟨r,hr⟩:=List.length_eq_one_iff.1 q
    grind
   grind
def pO (n0:Nat) (R:V->St->Prop) (v:V) (I:St):Prop:=
 ∃v1 I1 pick I' r,nG [v] I [v1] I1/\gu n0 pick I1 I'/\cP (cH pick I1.length) r v1/\R r I'
def lP (P:Program) (rs:List ResultVar) (n0:Nat) (R:V->St->Prop):Exit->Env->St->Prop
 | .normal,e,I| .ret,e,I=> ∃v,lO P rs e I=some v/\pO n0 R v I
 |_,_,_=>False
theorem bN.oj {f:FuncId} {nt:Nat} {rs:List ResultVar} {args:List V} {I:St} {R:V->St->Prop} (n0:Nat) (hf:P.funcs[f]? =some fn) (af:fn.ntmps=nt) (ad:fn.results=rs.toArray) (hb:fn.body=some code) (h0:I.length=n0) (an:args.length<=nt)
  (h: ∀c:Ctx,c.cv.length=n0->c.β0.length=c.cv.length->VW P c nt code (lP P rs n0 R) (jS 0 args) I):bN P f args I R:=by
 subst af
 subst h0
 have ad:fn.results.toList=rs:=by rw[ad]
 subst ad
 intro w L J aa hm ha
 have hlen:=ha.length
 refine calls_of_wp hf hb ?_
 have ae:dP (entry w L I J) fn.ntmps (jS 0 args) I {tmps:=aa.toArray++Array.replicate (fn.ntmps - aa.toArray.size) undef,defers:= []} w L J:=by
  refine⟨hm,by grind,rfl,λt=> ?_⟩
  have e1:=LB args 0 t
  rw[Ad]at e1
  rw[e1]
  by_cases ht:t<args.length
  .obtain⟨x,hx,r⟩:=ha.get t _ (A0 ht)
   have:(aa.toArray++Array.replicate (fn.ntmps - aa.toArray.size) undef).getD t undef=x:=by
    rw[Array.getD_eq_getD_getElem?,Dl (by grind)]
    grind
   grind
  .rw[Ae,Dk om]
   trivial
 refine wp_mono (h (entry w L I J) rfl hm.len _ w L J ae) λx a' w' q=> ?_
 have fin: ∀{x:Exit},(x= .normal\/x= .ret)->fo (entry w L I J) fn.ntmps (lP P fn.results.toList I.length R) x a' w'->
   a'.defers= []/\ ∃v,(results fn a'.tmps).run P w'= .ok v w'/\ ∃v' r L' I' J',Ending.returned v=Ending.returned v'/\R r I'/\I.length<=I'.length/\Mem (entry w L I J) w' L' I' J'/\dt w' L' I' J' r v':=by
  intro x hx q
  have hq: ∃e' I' L' J',dP (entry w L I J) fn.ntmps e' I' a' w' L' J'/\ ∃v,lO P fn.results.toList e' I'=some v/\pO I.length R v I':=by
   rcases hx with rfl|rfl<;>exact q
  obtain⟨e',cv,ao,J1,hs,v,hv,v1,I1,pick,I',r,ah,hp,ai,hR⟩:=hq
  obtain⟨x,hx,al⟩:=XX (P:=P) hs hv
  obtain⟨L',J2,ab,_,_,aj,_⟩:=ah.ok hs.mem (xs:= [x]) (by trivial)
  refine⟨hs.defs,x,hx,x,r,L',I',_,rfl,hR, ?_,ab.pick hp hm.len,xx (hp.je ab.len) ai aj⟩
  rw[hp.len]
  rcases Bx pick.length I.length with ak|aq
  .have:=(A3.1 (hp.id pick.length ak)).1
   omega
  omega
 cases x with
 |normal=>exact fin (.inl rfl) q
 |ret=>exact fin (.inr rfl) q
 |exit id=>obtain⟨e',I',L',J',hs,hq⟩:=q;simpa
 |goto l=>simpa
 |panic ch=>trivial
 |outgrown=>trivial
theorem bN.intro {f:FuncId} {nt:Nat} {rs:List ResultVar} {args:List V} {I:St} {R:V->St->Prop} (n0:Nat) (hf:P.funcs[f]? =some fn) (aa:fn.ntmps=nt) (ab:fn.results=rs.toArray) (hb:fn.body=some code) (h0:I.length=n0) (ad:args.length<=nt)
  (h: ∀c:Ctx,c.cv.length=n0->c.β0.length=c.cv.length->pN P c nt code (lP P rs n0 R) (jS 0 args) I):bN P f args I R:=
 bN.oj n0 hf aa ab hb h0 ad (by grind[qZ])
theorem P4 {Q:Exit->Act->World->Prop} (uU:Nat->Act->World->Prop) (n:Nat) (h₀:uU n a w)
  (round: ∀n a w,uU n a w->code.wp P (Exit.then (λa' w'=> ∃m,m<n/\uU m a' w') Q) a w):(Code.loop code).wp P Q a w:=by
 intro b k cs
 have key: ∀n a w,uU n a w-> ∃e a' w',Q e a' w'/\Arrives P (lone (b.at a (.code code:: .inLoop code::k)) cs w) b k cs e a' w':=by
  intro n
  induction n using Nat.strongRecOn with
  |_ n ih=>
   intro a w hI
   obtain⟨e,a₁,pP,hq,aa⟩:=round n a w hI b (.inLoop code::k) cs
   cases e with
   |normal=>
    obtain⟨m,ad,ae⟩:=hq
    obtain⟨LC,a₂,LD,af,ab⟩:=ih m ad a₁ pP ae
    exact⟨LC,a₂,LD,af,.of_steps (Steps.trans aa (.one step_inLoop)) ab⟩
   |exit id=>exact⟨_,a₁,pP,hq,(by simpa)⟩
   |goto l=>exact⟨_,a₁,pP,hq,(by simpa)⟩
   |ret=>exact⟨_,a₁,pP,hq,(by simpa)⟩
   |panic ch=>exact⟨_,a₁,pP,hq,(by simpa)⟩
   |outgrown=>exact⟨_,a₁,pP,hq,(by simpa)⟩
 obtain⟨e,a',w',hq,aa⟩:=key n a w h₀
 exact⟨e,a',w',hq,.of_steps (.one step_loop) aa⟩
def mT:List (Nat×V)->Env
 | []=>n9
 |(t,v)::r=>fm (mT r) t v
def XY (n0:Nat) (keep:ahQ) (Inv:List V->St->Nat->Prop) (m:Nat) (e:Env) (I:St):Prop:=
 ∃vs s pick,gu n0 pick I s/\bP (cP (cH pick I.length)) vs (keep.map e)/\Inv vs s m
theorem LF (h:dP c nt e I a w L J) (hc:c.β0.length=c.cv.length) {keep:ahQ} {Inv:List V->St->Nat->Prop} {m:Nat} (hk:XY c.cv.length keep Inv m e I):
  ∃vs s J',Inv vs s m/\vs.length=keep.length/\dP c nt (mT (keep.zip vs)) s a w L J':=by
 obtain⟨vs,s,pick,hp,aa,hI⟩:=hk
 have hl:=aa.length
 simp at hl
 refine⟨vs,s,_,hI,hl,h.mem.pick hp hc,h.size,h.defs,λt=> ?_⟩
 have hb:=hp.je h.mem.len
 clear hI
 revert aa hl
 generalize keep=kl
 intro aa hl
 induction kl generalizing vs with
 |nil=>trivial
 |cons q kl ih=>cases vs with
  |nil=>grind
  |cons v vs=>
   simp only[Dw,mT,fm]
   by_cases hq:t=q
   .subst hq
    rw[ahg rfl]
    exact xx hb aa.1 (h.env t)
   .rw[ahf hq]
    exact ih vs aa.2 (by grind)
end
def Fx.{v} {U:Sort v} (_:U):Type:=Unit
def fx.{v} {U:Sort v} {a:U}:Fx a:=()
abbrev KT:=Env->St->Prop
abbrev QT:=Exit->Env->St->Prop
def nH (P:Program) (c:Ctx) (nt:Nat) (code:Code) (Q:QT) (_:Fx code) (_:Fx Q) (e:Env) (I:St):Prop:=pN P c nt code Q e I
def lQ (P:Program) (c:Ctx) (nt:Nat) (ops l:List Oper) (K:KT) (_:Fx ops) (_:Fx l) (_:Fx K) (e:Env) (I:St):Prop:=jR P c nt ops l K e I
def eG (P:Program) (c:Ctx) (nt:Nat) (d:Option Tmp) (op:Op) (K:KT) (_:Fx op) (_:Fx K) (e:Env) (I:St):Prop:=jo P c nt d op K e I
def dQ (nt:Nat) (d:Option Tmp) (r:R) (K:KT) (_:Fx K) (e:Env) (I:St):Prop:=lM nt d r K e I
def iB (nt:Nat) (d:Option Tmp) (v:V) (K:KT) (_:Fx K) (e:Env) (I:St):Prop:=eY nt d v K e I
def sq (p q:Prop) (_:Fx q):Prop:=IA p q
def Ep (x:V) (A B:Prop) (_:Fx A) (_:Fx B):Prop:=Gk x A B
def ky (x:V) (want:Bool) (A B:Prop) (_:Fx A) (_:Fx B):Prop:=ku x want A B
def AW (t:Option Tmp) (want:Bool) (e:Env) (A B:Prop) (_:Fx A) (_:Fx B):Prop:=match t with|some t=>ku (e t) want A B|none=>False
def sr (ops:List Oper) (_:Fx ops) (j:Nat):Option Tmp:=jQ ops j
def xz (K:KT) (Q:QT) (_:Fx K) (_:Fx Q) (x:Exit) (e:Env) (I:St):Prop:=LA K Q x e I
def pQ (id:Nat) (Q:QT) (_:Fx Q) (x:Exit) (e:Env) (I:St):Prop:=AU id Q x e I
def gx (P:Program) (c:Ctx) (nt:Nat) (code:Code) (Q:QT) (_:Fx code) (_:Fx Q) (e:Env) (I:St):Prop:=VW P c nt code Q e I
def iZ (P:Program) (c:Ctx) (fv:V) (az:List V) (I:St) (K:V->St->Prop) (_:Fx K):Prop:=VC P c fv az I K
def LG (nt:Nat) (d:Option Tmp) (K:KT) (_:Fx K) (e:Env) (v:V) (I:St):Prop:=eY nt d v K e I
section
variable {P:Program} {c:Ctx} {nt:Nat} {e:Env} {I:St} {K:KT} {Q:QT} {d:Option Tmp}
variable {x:Operand}{t:TypeId}{i:Nat}{A:Prop}{B:Prop}{op:BinOp}{b:Bool}{es:Option (List Pk)}{y:Operand}{l:List Operand}{want:Bool}{t':TypeId}{k:IntKind}{f:FuncId}{ops:List Oper}{ty:TypeId}{dX:Array Edge}{n:Int}{p:Prop}{ts:Array TypeId}{ek:Nat}
theorem zM {code:Code} (h:nH P c nt code Q fx fx e I):pN P c nt code Q e I:=h
@[go_sem] theorem AX:nH P c nt .skip Q fx fx e I=Q .normal e I:=id rfl
@[go_sem] theorem Er {x y:Code}:nH P c nt (.seq x y) Q fx fx e I=nH P c nt x (xz (nH P c nt y Q fx fx) Q fx fx) fx fx e I:=id rfl
@[go_sem] theorem AY {t f:Code}:nH P c nt (.cond x t f) Q fx fx e I=Ep (zG e x) (nH P c nt t Q fx fx e I) (nH P c nt f Q fx fx e I) fx fx:=id rfl
@[go_sem] theorem x5 {b:Code}:nH P c nt (.block i b) Q fx fx e I=nH P c nt b (pQ i Q fx) fx fx e I:=id rfl
@[go_sem] theorem AZ:nH P c nt (.exit i) Q fx fx e I=Q (.exit i) e I:=id rfl
@[go_sem] theorem Es:nH P c nt .ret Q fx fx e I=Q .ret e I:=id rfl
@[go_sem] theorem vl {l:List Oper}:nH P c nt (.region i l.toArray false) Q fx fx e I=lQ P c nt l l (Q .normal) fx fx fx e I:=id rfl
@[go_sem] theorem BB {ops:Array Oper}:nH P c nt (.region i ops true) Q fx fx e I=gx P c nt (.region i ops true) Q fx fx e I:=id rfl
@[go_sem] theorem BC {b:Code}:nH P c nt (.loop b) Q fx fx e I=gx P c nt (.loop b) Q fx fx e I:=id rfl
@[go_sem] theorem vm:xz K Q fx fx .normal e I=K e I:=id rfl
@[go_sem] theorem Et:xz K Q fx fx .ret e I=Q .ret e I:=id rfl
@[go_sem] theorem BD:xz K Q fx fx (.exit i) e I=Q (.exit i) e I:=id rfl
@[go_sem] theorem x6:pQ i Q fx .normal e I=Q .normal e I:=id rfl
@[go_sem] theorem Gl:pQ i Q fx .ret e I=Q .ret e I:=id rfl
@[go_sem] theorem Eu:pQ i Q fx (.exit i) e I=Q .normal e I:=by show(if i=i then _ else _)=_;simp
@[go_sem] theorem Ev {j:Nat}:pQ i Q fx (.exit j) e I=if j=i then Q .normal e I else Q (.exit j) e I:=id rfl
theorem xC {op:Op} (h1:hZ P e I op=ct P e I op) (h2:jo P c nt d op K e I=lM nt d (xU P d e I op) K e I):eG P c nt d op K fx fx e I=dQ nt d (ct P e I op) K fx e I:=by
 grind[eG,dQ,xU]
def wh (b:Bool) (x y:R):R:=if b=true then x else y
@[go_sem] theorem XZ {x y:R}:wh true x y=x:=rfl
@[go_sem] theorem X1 {x y:R}:wh false x y=y:=rfl
def LH:V->Bool
 | .cy []=>true
 |_=>false
@[go_sem] theorem x7 {t:Nat}:lA e (some t)=LH (e (100000+t)):=by
 rfl
@[go_sem] theorem x8:lA e none=false:=rfl
@[go_sem] theorem Gm:LH (.cy [])=true:=rfl
@[go_sem] theorem Gn:LH .u=false:=rfl
@[go_sem] theorem LI {t:Nat}:n9 t= .u:=rfl
@[go_sem] theorem Gp:lQ P c nt ops [] K fx fx fx e I=K e I:=id rfl
@[go_sem] theorem Ew {rest:List Oper} {op:Op} {pos:String}:lQ P c nt ops (⟨d,op,ty,pos,dX,none⟩::rest) K fx fx fx e I=eG P c nt d op (lQ P c nt ops rest K fx fx fx) fx fx e I:=id rfl
@[go_sem] theorem BE {rest:List Oper} {op:Op} {pos:String} {j:Nat}:lQ P c nt ops (⟨d,op,ty,pos,dX,some (j,want)⟩::rest) K fx fx fx e I=
  AW (sr ops fx j) want e (eG P c nt d op (lQ P c nt ops rest K fx fx fx) fx fx e I) (iB nt d (.cy []) (lQ P c nt ops rest K fx fx fx) fx e I) fx fx:=id rfl
@[go_sem] theorem Ex {t:Tmp}:AW (some t) want e A B fx fx=ky (e t) want A B fx fx:=id rfl
@[go_sem] theorem Ey {d:Option Tmp} {op:Op} {pos:String} {g:Option (Nat×Bool)} {l:List Oper}:sr (⟨d,op,ty,pos,dX,g⟩::l) fx 0=d:=id rfl
@[go_sem] theorem Ez {o:Oper} {l:List Oper} {n:Nat}:sr (o::l) fx (n+1)=sr l fx n:=by rfl
@[go_sem] theorem ID:ky (.bool true) true A B fx fx=A:=by grind[ky,ku]
@[go_sem] theorem IE:ky (.bool false) false A B fx fx=A:=by grind[ky,ku]
@[go_sem] theorem IF:ky (.bool true) false A B fx fx=B:=by grind[ky,ku]
@[go_sem] theorem IG:ky (.bool false) true A B fx fx=B:=by grind[ky,ku]
@[go_sem] theorem IH:ky (.cy []) want A B fx fx=B:=by rfl
@[go_sem] theorem II:Ep (.bool true) A B fx fx=A:=by grind[Ep,Gk]
@[go_sem] theorem IJ:Ep (.bool false) A B fx fx=B:=by grind[Ep,Gk]
theorem zU (ha:b=true->A) (hb:b=false->B):Ep (.bool b) A B fx fx:=⟨ha,hb⟩
theorem xE (ha:b=want->A) (hb:b=(!want)->B):ky (.bool b) want A B fx fx:=⟨ha,λh=>hb (by cases b<;>cases want<;>simp_all)⟩
theorem zJ {q:Prop} (hp:p) (hq:q):sq p q fx:=⟨hp,hq⟩
@[go_sem] theorem IK {q:Prop}:sq True q fx=q:=by grind[sq,IA]
@[go_sem] theorem IL {v:V}:dQ nt d (.ok v) K fx e I=iB nt d v K fx e I:=id rfl
@[go_sem] theorem EA {v:V}:dQ nt d (.ec p v) K fx e I=sq p (iB nt d v K fx e I) fx:=id rfl
@[go_sem] theorem IM {v:V} {s:St}:dQ nt d (.st v s) K fx e I=iB nt d v K fx e s:=id rfl
@[go_sem] theorem x9 {v:V} {s:St}:dQ nt d (.dz p v s) K fx e I=sq p (iB nt d v K fx e s) fx:=id rfl
@[go_sem] theorem EB {t:Nat} {v:V}:iB nt (some t) v K fx e I=(t<nt/\K (fm e t v) I):=id rfl
@[go_sem] theorem EC {v:V}:iB nt none v K fx e I=K e I:=id rfl
@[go_sem] theorem Gq {v:V}:LG nt d K fx e v I=iB nt d v K fx e I:=id rfl
@[go_sem] theorem Gr:eG P c nt d (.move x) K fx fx e I=iB nt d (zG e x) K fx e I:=(xC rfl rfl).trans rfl
@[go_sem] theorem BF:eG P c nt d (.assign x) K fx fx e I=iB nt d (zG e x) K fx e I:=(xC rfl rfl).trans rfl
@[go_sem] theorem Gs {z:Operand}:eG P c nt d (.pick x y z) K fx fx e I=dQ nt d (w7 (zG e x) (zG e y) (zG e z)) K fx e I:=(xC rfl rfl).trans rfl
@[go_sem] theorem ED:eG P c nt d (.alloc t) K fx fx e I=dQ nt d (qW P t I) K fx e I:=(xC rfl rfl).trans rfl
@[go_sem] theorem IN:eG P c nt d (.box t x) K fx fx e I=dQ nt d (uZ I (zG e x)) K fx e I:=(xC rfl rfl).trans rfl
@[go_sem] theorem EE {l:List (Nat×Operand)}:eG P c nt d (.build t l.toArray) K fx fx e I=dQ nt d (xf (xY P t) (eU P t) (l.map λp=>(p.1,zG e p.2))) K fx e I:=(xC rfl rfl).trans rfl
@[go_sem] theorem su {n:Nat} {l:List (Nat×Operand)}:eG P c nt d (.buildSlice t n l.toArray) K fx fx e I=dQ nt d (wh (lA e d) (vi ((eE P t).map (·.1)) n I (l.map λp=>(p.1,zG e p.2))) (vd ((eE P t).map (·.1)) n (l.map λp=>(p.1,zG e p.2)))) K fx e I:=id rfl
@[go_sem] theorem Gt:eG P c nt d (.load t x) K fx fx e I=dQ nt d (mL P t I (zG e x)) K fx e I:=(xC rfl rfl).trans rfl
@[go_sem] theorem EF:eG P c nt d (.store t x y) K fx fx e I=dQ nt d (uY P t I (zG e x) (zG e y)) K fx e I:=(xC rfl rfl).trans rfl
@[go_sem] theorem IP:eG P c nt d (.nilCheck x) K fx fx e I=dQ nt d (xa (zG e x)) K fx e I:=(xC rfl rfl).trans rfl
@[go_sem] theorem IQ:eG P c nt d (.binOp op t x y t') K fx fx e I=dQ nt d (wh (pe y) (uX op (iK P t) (zG e x)) (wh (qY y) (xt op (mN P t) (zG e x)) (mz op (iK P t) (ko P t) (zG e x) (zG e y)))) K fx e I:=(xC rfl rfl).trans rfl
@[go_sem] theorem ya {t:Nat}:pe (.tmp t)=false:=rfl
@[go_sem] theorem yb:pe (.const (.slice none 0 0))=true:=rfl
@[go_sem] theorem yc:pe (.const (.int k n))=false:=rfl
@[go_sem] theorem vo:pe (.const (.bool b))=false:=rfl
@[go_sem] theorem yd {b:ByteArray}:pe (.const (.string b))=false:=rfl
@[go_sem] theorem ye {a:Option Addr}:pe (.const (.pointer a))=false:=rfl
@[go_sem] theorem vp:pe (.func f)=false:=rfl
@[go_sem] theorem yf {m:ahV}:pe (.const (.map m))=false:=rfl
@[go_sem] theorem vq {t:Nat}:qY (.tmp t)=false:=rfl
@[go_sem] theorem vt:qY (.const (.map none))=true:=rfl
@[go_sem] theorem vu:qY (.const (.int k n))=false:=rfl
@[go_sem] theorem tZ:qY (.const (.bool b))=false:=rfl
@[go_sem] theorem vw {b:ByteArray}:qY (.const (.string b))=false:=rfl
@[go_sem] theorem vx {a:Option Addr}:qY (.const (.pointer a))=false:=rfl
@[go_sem] theorem ua:qY (.func f)=false:=rfl
def P5 (l:List (V×St)) (A:V->St->Prop) (_:Fx A):Prop:= ∀p∈l,A p.1 p.2
@[go_sem] theorem X2 {l:List (V×St)}:dQ nt d (.any l) K fx e I=P5 l (λv s=>iB nt d v K fx e s) fx:=id rfl
theorem X3 {l:List (V×St)} {A:V->St->Prop} (h: ∀p∈l,A p.1 p.2):P5 l A fx:=h
@[go_sem] theorem yg {r:Option Operand}:eG P c nt d (.makeMap t r) K fx fx e I=dQ nt d (xp I (mN P t) (r.map (zG e))) K fx e I:=(xC rfl rfl).trans rfl
@[go_sem] theorem BG {k:Operand} {ok:Bool}:eG P c nt d (.lookup t x k ok) K fx fx e I=dQ nt d (xW (gv P t) I (zG e x) (zG e k) ok) K fx e I:=(xC rfl rfl).trans rfl
@[go_sem] theorem ub {k v:Operand}:eG P c nt d (.mapUpdate t x k v) K fx fx e I=dQ nt d (xT (gv P t) I (zG e x) (zG e k) (zG e v)) K fx e I:=(xC rfl rfl).trans rfl
@[go_sem] theorem EG:eG P c nt d (.range t x) K fx fx e I=dQ nt d (xu (mN P t) I (zG e x)) K fx e I:=(xC rfl rfl).trans rfl
@[go_sem] theorem Gu:eG P c nt d (.next x false) K fx fx e I=dQ nt d (wh (lA e d) (mO true I (zG e x)) (mO false I (zG e x))) K fx e I:=id rfl
@[go_sem] theorem BH {k:Operand}:eG P c nt d (.call ⟨.builtin .delete, #[x,k], #[t,t']⟩) K fx fx e I=dQ nt d (xr (gv P t) I (zG e x) (zG e k)) K fx e I:=(xC rfl rfl).trans rfl
attribute [go_sem] F7 AM xp xW xT xu mO xr xt mA nF pK xq xv
def wall (A:Bool->Prop) (_:Fx A):Prop:= ∀b,A b
@[go_sem] theorem Gv {f:Bool->V}:dQ nt d (.all f) K fx e I=wall (λb=>iB nt d (f b) K fx e I) fx:=id rfl
theorem IS {A:Bool->Prop} (h: ∀b,A b):wall A fx:=h
@[go_sem] theorem LJ {op:UnOp}:eG P c nt d (.unOp op t x) K fx fx e I=dQ nt d (mK op (zG e x)) K fx e I:=(xC rfl rfl).trans rfl
@[go_sem] theorem Gw:eG P c nt d (.convert t t' x) K fx fx e I=dQ nt d (wh (lA e d) (xk (ju P t) (ju P t') I (zG e x)) (ve (ju P t) (ju P t') (zG e x))) K fx e I:=id rfl
@[go_sem] theorem EH {hi:Option Operand}:eG P c nt d (.slice t x none hi none) K fx fx e I=dQ nt d (rV (iI P t) (dI P t) ((eE P t).map (·.1)) (zG e x) none (hi.map (zG e))) K fx e I:=(xC rfl rfl).trans rfl
@[go_sem] theorem BI {lo hi:Operand}:eG P c nt d (.slice t x (some lo) (some hi) none) K fx fx e I=dQ nt d (rV (iI P t) (dI P t) ((eE P t).map (·.1)) (zG e x) (some (zG e lo)) (some (zG e hi))) K fx e I:=(xC rfl rfl).trans rfl
@[go_sem] theorem BJ {lo:Operand}:eG P c nt d (.slice t x (some lo) none none) K fx fx e I=dQ nt d (wh (lA e d) (xg (dI P t) ((eE P t).map (·.1)) I (zG e x) (zG e lo)) (rV (iI P t) (dI P t) ((eE P t).map (·.1)) (zG e x) (some (zG e lo)) none)) K fx e I:=id rfl
@[go_sem] theorem uc {f:Nat}:eG P c nt d (.fieldAddr t x f) K fx fx e I=dQ nt d (xc P t (zG e x) f) K fx e I:=(xC rfl rfl).trans rfl
@[go_sem] theorem EI {f:Nat}:eG P c nt d (.field t x f) K fx fx e I=dQ nt d (xi (cx P t f) (zG e x)) K fx e I:=(xC rfl rfl).trans rfl
@[go_sem] theorem yh {i:Operand}:eG P c nt d (.indexAddr t x i) K fx fx e I=dQ nt d (u7 (eT P t) (iI P t) (zG e x) (zG e i)) K fx e I:=(xC rfl rfl).trans rfl
@[go_sem] theorem IT {i:Operand}:eG P c nt d (.index t x i) K fx fx e I=dQ nt d (u9 (zG e x) (zG e i) (pH P t) (iI P t)) K fx e I:=(xC rfl rfl).trans rfl
@[go_sem] theorem yi:eG P c nt d (.extract x i) K fx fx e I=dQ nt d (xb (zG e x) i) K fx e I:=(xC rfl rfl).trans rfl
@[go_sem] theorem Gx {fn:Fn} {m:List Operand}:eG P c nt d (.makeFunc fn l.toArray m.toArray) K fx fx e I=dQ nt d (xj fn l.length (m.map (zG e))) K fx e I:=(xC rfl rfl).trans rfl
@[go_sem] theorem Gy {l m:Operand}:eG P c nt d (.makeSlice t l m) K fx fx e I=dQ nt d (wh (lA e d) (vg (eE P t) (jd P t) I (zG e l) (zG e m)) (vf (eE P t) (jd P t) I (zG e l) (zG e m))) K fx e I:=id rfl
@[go_sem] theorem IU:eG P c nt d (.call ⟨.builtin .len, #[x], #[t]⟩) K fx fx e I=dQ nt d (xe (dI P t) (zG e x)) K fx e I:=(xC rfl rfl).trans rfl
@[go_sem] theorem EJ:eG P c nt d (.call ⟨.builtin .clear, #[x], #[t]⟩) K fx fx e I=dQ nt d (vh ((eE P t).map (·.1)) (jd P t) I (zG e x)) K fx e I:=(xC rfl rfl).trans rfl
@[go_sem] theorem BK:eG P c nt d (.call ⟨.builtin .append, #[x,y], #[t,t']⟩) K fx fx e I=dQ nt d (wh (lA e d) (rT (eE P t) (dI P t') I (zG e x) (zG e y)) (rS (eE P t) (dI P t') I (zG e x) (zG e y))) K fx e I:=id rfl
@[go_sem] theorem IV:eG P c nt d (.call ⟨.builtin .min,l.toArray,ts⟩) K fx fx e I=dQ nt d (pI false (l.map (zG e))) K fx e I:=(xC rfl rfl).trans rfl
@[go_sem] theorem IW:eG P c nt d (.call ⟨.builtin .max,l.toArray,ts⟩) K fx fx e I=dQ nt d (pI true (l.map (zG e))) K fx e I:=(xC rfl rfl).trans rfl
@[go_sem] theorem Gz {f:Operand}:eG P c nt d (.call ⟨.value f,l.toArray,ts⟩) K fx fx e I=iZ P c (zG e f) (l.map (zG e)) I (LG nt d K fx e) fx:=id rfl
@[go_sem] theorem EK {t:Nat}:zG e (.tmp t)=e t:=rfl
@[go_sem] theorem yj {v:Value}:zG e (.const v)=iY v:=rfl
@[go_sem] theorem BL {g:Nat}:zG e (.global g)=Pe g:=rfl
@[go_sem] theorem BM:zG e (.func f)= .fn f []:=rfl
@[go_sem] theorem IX {t':Nat} {v:V} {t:Nat}:fm e t' v t=if t=t' then v else e t:=rfl
@[go_sem] theorem BN:iY (.bool b)= .bool b:=rfl
@[go_sem] theorem EL:iY (.int k n)= .int k n:=rfl
@[go_sem] theorem EM {s:ByteArray}:iY (.string s)= .str s.data.toList:=rfl
@[go_sem] theorem BO:iY (.pointer none)= .fJ:=rfl
@[go_sem] theorem BP:iY (.slice none 0 0)= .sl .full []:=rfl
attribute [go_sem] xg uX F5 AK w7 xa mK ve xk pI xe uZ qW xb xi xc mL qV uY mJ xM u9 u7 rV xh nE rS rT AL rR Pn vh vd vi vg rU xf Eg vf xj Gc pc ly qX nD jS mT
@[go_sem] theorem EN {x y:Int}:mz op ek es (.int k x) (.int k y)=AI op k x y:=by simp[mz]
@[go_sem] theorem EO {x y:ahP}:mz op ek es (.str x) (.str y)=AJ op x y:=rfl
@[go_sem] theorem BQ {x y:Bool}:mz op 1 es (.bool x) (.bool y)=(match op with| .eql=> .ok (.bool (x==y))| .neq=> .ok (.bool (!(x==y)))|_=> .fail):=rfl
@[go_sem] theorem EP {o:Nat}:mz op 2 es (.ptr i o) .fJ=(match op with| .eql=> .ok (.bool false)| .neq=> .ok (.bool true)|_=> .fail):=rfl
@[go_sem] theorem ER:mz op 2 es .fJ .fJ=(match op with| .eql=> .ok (.bool true)| .neq=> .ok (.bool false)|_=> .fail):=rfl
@[go_sem] theorem ET {ks:List Pk} {az bs:List V}:mz op ek (some ks) (.agg az) (.agg bs)=(match kV ks az bs with|some r=>(match op with| .eql=> .ok (.bool r)| .neq=> .ok (.bool (!r))|_=> .fail)|none=> .fail):=rfl
attribute [go_sem] AI AJ kV jv putCells
end
def q9:V->Bool
 | .ptr _ _| .sl (.app _) _| .agg _| .cy _| .fn _ _| .cJ _ _ _ _ _| .iH _ _ _ _ _| .jO _ _ _ _| .mp _| .gJ _ _=>false
 |_=>true
def oo:V->Bool
 | .fn _ bY=>bY.all q9
 | .gJ _ vs=>vs.all q9
 |v=>q9 v
def vy:V->Bool
 | .agg cs=>cs.all oo
 |v=>oo v
def gA:V->Bool
 | .cy vs=>vs.all vy
 |v=>vy v
def cL (n:Nat):V->Bool
 | .ptr id _=>decide (id<n)
 | .sl (.app id) _=>decide (id<n)
 | .cJ id _ _ _ _=>decide (id<n)
 | .iH id _ _ _ _=>decide (id<n)
 | .jO id _ _ _=>decide (id<n)
 | .mp id=>decide (id<n)
 | .agg _| .cy _| .fn _ _| .gJ _ _=>false
 |_=>true
def cQ (n:Nat):V->Bool
 | .fn _ bY=>bY.all (cL n)
 | .gJ _ vs=>vs.all (cL n)
 |v=>cL n v
def jq (n:Nat):V->Bool
 | .agg cs=>cs.all (cQ n)
 |v=>cQ n v
def iL (n:Nat):V->Bool
 | .cy vs=>vs.all (jq n)
 |v=>jq n v
def bT (n:Nat):Ob->Bool
 | .box cells=>cells.all (cQ n)
 | .cj rows _=>rows.all λr=>r.all (cQ n)
 | .mp dJ _ _=>dJ.all (jq n)
 | .it m _ _ _=>(match m with|some id=>decide (id<n)|none=>true)
 |_=>true
theorem wE {U:Type} {f:U->U} {p:U->Bool} (h: ∀a,p a=true->f a=a): ∀{l:List U},l.all p=true->l.map f=l
 | [],_=>rfl
 |a::l,q=>by
  simp only[Bv,Ab]at q
  rw[Ai,h a q.1,wE h q.2]
section
variable {ρ:Nat->Nat}
theorem P6 {v:V} (h:q9 v):di ρ v=v:=by
 cases v with
 |sl g rows=>cases g<;>first|rfl|simp[q9]at h
 |_=>first|rfl|simp[q9]at h
theorem BR {v:V} (h:oo v):de ρ v=v:=by
 cases v with
 |fn f bY=>simp only[de];rw[wE (λ_=>P6) h]
 |gJ t v=>simp only[de];rw[wE (λ_=>P6) h]
 |sl g rows=>cases g<;>first|rfl|simp[oo,q9]at h
 |_=>first|rfl|simp[oo,q9]at h
theorem LK {v:V} (h:vy v):dK ρ v=v:=by
 cases v with
 |agg cs=>simp only[dK];rw[wE (λ_=>BR) h]
 |fn f bY=>exact BR (v:= .fn f bY) h
 |gJ t v=>exact BR (v:= .gJ t v) h
 |sl g rows=>cases g<;>first|rfl|simp[vy,oo,q9]at h
 |_=>first|rfl|simp[vy,oo,q9]at h
theorem yk {v:V} (h:gA v):dF ρ v=v:=by
 cases v with
 |cy vs=>simp only[dF];rw[wE (λ_=>LK) h]
 |agg cs=>exact LK (v:= .agg cs) h
 |fn f bY=>exact BR (v:= .fn f bY) h
 |gJ t v=>exact BR (v:= .gJ t v) h
 |sl g rows=>cases g<;>first|rfl|simp[gA,vy,oo,q9]at h
 |_=>first|rfl|simp[gA,vy,oo,q9]at h
variable {n:Nat} (iM: ∀i,i<n->ρ i=i)
include iM
theorem yl {v:V} (h:cL n v):di ρ v=v:=by
 cases v with
 |sl g rows=>cases g with
  |app id=>simp_all[cL,di]
  |_=>rfl
 |ptr id off=>simp_all[cL,di]
 |cJ id s n lo m=>simp_all[cL,di]
 |iH id s n k j=>simp_all[cL,di]
 |jO id s off n=>simp_all[cL,di]
 |mp id=>simp_all[cL,di]
 |_=>first|rfl|simp[cL]at h
theorem mB {v:V} (h:cQ n v):de ρ v=v:=by
 cases v with
 |fn f bY=>simp only[de];rw[wE (by grind[yl]) h]
 |gJ t v=>simp only[de];rw[wE (by grind[yl]) h]
 |sl g rows=>have:=yl iM (v:= .sl g rows) h;simpa
 |ptr id off=>exact yl iM (v:= .ptr id off) h
 |cJ id s' n' lo m=>exact yl iM (v:= .cJ id s' n' lo m) h
 |iH id s' n' k j=>exact yl iM (v:= .iH id s' n' k j) h
 |jO id s' off n'=>exact yl iM (v:= .jO id s' off n') h
 |mp id=>exact yl iM (v:= .mp id) h
 |_=>first|rfl|simp[cQ,cL]at h
theorem IY {v:V} (h:jq n v):dK ρ v=v:=by
 cases v with
 |agg cs=>simp only[dK];rw[wE (by grind[mB]) h]
 |fn f bY=>exact mB iM (v:= .fn f bY) h
 |gJ t v=>exact mB iM (v:= .gJ t v) h
 |sl g rows=>have:=mB iM (v:= .sl g rows) h;simpa
 |ptr id off=>exact mB iM (v:= .ptr id off) h
 |cJ id s' n' lo m=>exact mB iM (v:= .cJ id s' n' lo m) h
 |iH id s' n' k j=>exact mB iM (v:= .iH id s' n' k j) h
 |jO id s' off n'=>exact mB iM (v:= .jO id s' off n') h
 |mp id=>exact mB iM (v:= .mp id) h
 |_=>first|rfl|simp[jq,cQ,cL]at h
theorem LL {v:V} (h:iL n v):dF ρ v=v:=by
 cases v with
 |cy vs=>simp only[dF];rw[wE (by grind[IY]) h]
 |agg cs=>exact IY iM (v:= .agg cs) h
 |fn f bY=>exact mB iM (v:= .fn f bY) h
 |gJ t v=>exact mB iM (v:= .gJ t v) h
 |sl g rows=>have:=IY iM (v:= .sl g rows) h;simpa
 |ptr id off=>exact mB iM (v:= .ptr id off) h
 |cJ id s' n' lo m=>exact mB iM (v:= .cJ id s' n' lo m) h
 |iH id s' n' k j=>exact mB iM (v:= .iH id s' n' k j) h
 |jO id s' off n'=>exact mB iM (v:= .jO id s' off n') h
 |mp id=>exact mB iM (v:= .mp id) h
 |_=>first|rfl|simp[iL,jq,cQ,cL]at h
theorem yW {o:Ob} (h:bT n o):yE ρ o=o:=by
 cases o with
 |box cells=>simp only[yE];rw[wE (by grind[mB]) h]
 |cj rows s=>simp only[yE];rw[wE (by grind[wE,mB]) h]
 |mp dJ fW cS=>simp only[yE];rw[wE (by grind[IY]) h]
 |it m since seen last=>
  cases m with
  |none=>rfl
  |some id=>simp_all[bT,yE]
 |_=>rfl
end
theorem pS {n N i:Nat} (h:i<n):cH (List.range n) N i=i:=by
 grind[wQ]
theorem P7 {n0:Nat} {s loc:St} (cN:s.all (bT s.length)) (hn:n0<=s.length):gu n0 (List.range s.length) (s++loc) s:=by
 refine⟨sm,Bc,λi j o hi ho=> ?_,λi hi=> ?_⟩
 .obtain⟨hl,hj⟩:=A3.1 hi
  simp at hj hl
  subst hj
  have:bT s.length o=true:=by
   grind
  grind[yW,pS]
 grind
theorem zC {ρ:Nat->Nat} {v:V} (h:gA v):cP ρ v v:= .inl (yk h).symm
theorem zK {ρ:Nat->Nat} {g:Tag} {rows:List (List V)}:cP ρ (.sl .ro rows) (.sl g rows):= .inr sm
theorem lR {n N:Nat} {v:V} (h:iL n v):cP (cH (List.range n) N) v v:= .inl (by grind[LL,pS])
theorem yF {ρ:Nat->Nat}: ∀{l:List V},l.all gA=true->bP (cP ρ) l l
 | [],_=>trivial
 |v::l,h=>by
  simp only[Bv,Ab]at h
  exact⟨zC h.1,yF h.2⟩
section
variable {P:Program} {c:Ctx} {nt:Nat} {e:Env} {I:St} {K:KT} {Q:QT} {d:Option Tmp} {R:V->St->Prop} {rs:List ResultVar} {n0:Nat}
def cw (v:Option V) (n0:Nat) (R:V->St->Prop) (I:St):Prop:= ∃x,v=some x/\pO n0 R x I
@[go_sem] theorem GA:lP P rs n0 R .ret e I=cw (lO P rs e I) n0 R I:=id rfl
@[go_sem] theorem ym:lP P rs n0 R .normal e I=cw (lO P rs e I) n0 R I:=id rfl
attribute [go_sem] lO Eo AV
theorem zX {v r:V} (hr:cP (cH [] I.length) r v) (hR:R r []):cw (some v) 0 R I:=
 ⟨v,rfl,v,I,[],[],r,.refl _ _,⟨rfl,C1,sm,om⟩,hr,hR⟩
theorem ud (k:Nat) {v r:V} (hk:(I.take k).length=k) (cN:(I.take k).all (bT k)) (hn:n0<=k) (hr:cP (cH (List.range k) I.length) r v) (hR:R r (I.take k)):cw (some v) n0 R I:=by
 have h1:I.take k++I.drop k=I:=sm
 have hp:=P7 (n0:=n0) (s:=I.take k) (loc:=I.drop k) (by rw[hk];exact cN) (by rw[hk];exact hn)
 rw[h1,hk]at hp
 exact⟨v,rfl,v,I,_,I.take k,r,.refl _ _,hp,hr,hR⟩
theorem LM (id s:Nat) (rows:List (List V)) {v:V} (cG:I[id]? =some (.cj rows s)) (hp:xQ rows) (h:cw (some (fZ id rows v)) n0 R (jx id rows I)):cw (some v) n0 R I:=by
 obtain⟨x,hx,v1,I1,pick,I',r,hf,hr⟩:=h
 cases hx
 exact⟨v,rfl,v1,I1,pick,I',r,.step id s rows cG hp hf,hr⟩
abbrev Pure (P:Program) (f:FuncId) (args:List V) (v:V):Prop:=bN P f args [] λr s=>r=v/\s= []
theorem zL {f:FuncId} {bY args cc:List V} {v:V} {KV:V->St->Prop} (hc:Pure P f cc v) (hb:xF P f) (aa:bP (cP (cH [] I.length)) cc (args++bY)) (hn:gA v) (hk:KV v I):
  iZ P c (.fn f bY) args I KV fx:=by
 refine VC.of hc hb [] C1 rfl sm aa ?_
 rintro r I' ⟨rfl,rfl⟩ _
 grind[yk,xB,fO]
theorem X4 {f:FuncId} {bY args cc:List V} {o:Ob} {i:Nat} {KV:V->St->Prop} {R:V->St->Prop} (hc:bN P f cc [o] R) (hb:xF P f) (ho:I[i]? =some o) (ab:bT 0 o)
  (aa:bP (cP (cH [i] I.length)) cc (args++bY)) (hk: ∀r I',R r I'->1<=I'.length->KV (dF (cH [i] I.length) r) (xB [i] I I')):iZ P c (.fn f bY) args I KV fx:=by
 refine VC.of hc hb [i] sm rfl (λk j o' h1 h2=> ?_) aa hk
 cases k with
 |zero=>
  simp at h1 h2
  subst h1;subst h2
  rw[yW (n:=0) om ab];exact ho
 |succ k=>grind
end
def lB:Op->Nat
 | .move _| .assign _| .pick .. | .build .. | .buildSlice .. | .nilCheck _| .binOp .. | .unOp .. | .convert .. | .slice .. | .fieldAddr .. | .field .. | .indexAddr .. | .index .. | .extract .. | .makeFunc .. =>0
 | .call ⟨.builtin .len,_,_⟩| .call ⟨.builtin .min,_,_⟩| .call ⟨.builtin .max,_,_⟩=>0
 | .load .. =>1
 | .alloc .. | .box .. =>3
 |_=>4
def zZ (q:List (Nat×Nat)) (i:Nat) (o:Oper):Nat:=match q.find? (·.1==i)with|some p=>min p.2 4|none=>lB o.op
structure Kp where
 x:Nat
 n:Nat
 ex:ahQ
 ob:Option (Nat×(Ob->R))
abbrev Kp.pre (n:Nat):Kp:=⟨0,n,[],none⟩
def Kp.has (k:Kp) (id:Nat):Bool:=decide (k.x<=id)&&decide (id<k.n)&& !k.ex.contains id
@[go_sem] theorem Kp.IZ {n id:Nat}:(Kp.mk 0 n [] none).has id=decide (id<n):=by simp[Kp.has]
@[go_sem] theorem Kp.I0 {x n id:Nat}:(Kp.mk (x+1) n [] none).has id=(decide (x+1<=id)&&decide (id<n)):=by simp[Kp.has]
def Kp.of (k:Kp) (I:St):St×Option R:=(((I.take k.n).mapIdx λi o=>if k.ex.contains i then .dead else o).drop k.x,k.ob.bind λp=>((I.take k.n)[p.1]?).map p.2)
theorem Kp.get {k:Kp} {id:Nat} {I S:St} (h:k.has id) (ht:k.of I=k.of S):I[id]? =S[id]? :=by
 simp only[Kp.has,Ab,ahl,Dc]at h
 obtain⟨⟨h1,h2⟩,h3⟩:=h
 have e: ∀τ:St,(k.of τ).1[id - k.x]? =τ[id]? :=(by simp_all[Kp.of])
 grind
theorem Kp.lC {k:Kp} {I ext:St} (h:k.n<=I.length):k.of (I++ext)=k.of I:=by
 grind[Kp.of]
theorem Kp.iN {k:Kp} {I:St} {id:Nat} {o:Ob} (h:(id<k.x/\k.ob=none)\/k.n<=id):k.of (I.set id o)=k.of I:=by
 unfold Kp.of
 congr 1
 .refine Bg λi=> ?_
  grind
 grind
theorem Kp.yn {k:Kp} {I:St} {id:Nat} {o o':Ob} (hx:k.ex.contains id) (ho:I[id]? =some o) (hk: ∀p,k.ob=some p->p.1=id->p.2 o'=p.2 o):k.of (I.set id o')=k.of I:=by
 unfold Kp.of
 congr 1
 .congr 1
  refine Bg λi=> ?_
  grind
 .cases aa:k.ob<;>grind
def yo (a b:Nat):Bool:=(a==4&&b !=0)||(b==4&&a !=0)||(a==3&&(b==3||b==2))||(b==3&&a==2)
def oq (ops:List Oper) (o:Oper):List Tmp:=(o.op.operands.toList.filterMap λ| .tmp t=>some t|_=>none)++(match o.guard with|some (j,_)=>(jQ ops j).toList|none=> [])++(o.dst.map (100000+ ·)).toList
def cN (P:Program) (d:Option Tmp) (e:Env) (op:Op):Prop:=lA e d=false\/ ∀e I,hZ P e I op=ct P e I op
theorem pT {P:Program} {d:Option Tmp} {e:Env} {op:Op} (h:cN P d e op) (I:St):xU P d e I op=ct P e I op:=by
 unfold xU
 rcases h with h|h
 all_goals grind
theorem X5 {d:Option Tmp} {e e':Env} (h: ∀t,d=some t->e (100000+t)=e' (100000+t)):lA e d=lA e' d:=by
 cases d with
 |none=>rfl
 |some t=>simp only[lA,h t rfl]
def ga:List Oper->List ahQ->List ahQ
 | [],acc=>acc
 |o::os,acc=>ga os (acc++ [((o.after.toList.filter (Region.binds .any)).flatMap λe=>e.on::acc.getD e.on []).eraseDups])
def ue (ops:List Oper) (q:List (Nat×Nat)) (i j:Nat) (a b:Oper):Bool:=
 yo (zZ q i a) (zZ q j b)||
 (match a.dst with|some d=>(oq ops b).contains d||b.dst==some d|none=>false)||(match b.dst with|some d=>(oq ops a).contains d|none=>false)
def uf (ops:List Oper) (q:List (Nat×Nat)):Bool:=
 let b:=ga ops []
 (List.range ops.length).all λj=>(List.range j).all λi=>
  match ops[i]?,ops[j]? with
  |some x,some y=> !ue ops q i j x y||(b.getD j []).contains i
  |_,_=>true
def rb (ops:List Oper):Bool:=(List.range ops.length).all λj=>match ops[j]? with|some o=>o.after.all λe=> !Region.binds .any e||decide (e.on<j)|none=>true
section
variable {P:Program} {c:Ctx} {nt:Nat} {n0:Kp}
variable {I:St}{e:Env}{e':Env}
theorem P8 (ops:List Oper) (D:Nat->Prop) (hD: ∀(j:Nat) o,ops[j]? =some o->D j-> ∀e∈o.after.toList,Region.binds .any e=true->D e.on):
  ∀(rest pre:List Oper) (acc:List ahQ),ops=pre++rest->acc.length=pre.length->(∀j l,acc[j]? =some l->D j-> ∀i∈l,D i)->
   ∀j l,(ga rest acc)[j]? =some l->D j-> ∀i∈l,D i
 | [],_,acc,_,_,h=>h
 |o::rest,pre,acc,aa,hlen,h=>by
  rw[ga]
  refine P8 ops D hD rest (pre++ [o]) _ (by grind) (by grind) λj l hj ab i hi=> ?_
  rcases xG hj with ⟨_,hj⟩|⟨hj,hl⟩
  .grind
  .have ad:j=pre.length:=om
   rw[hl]at hi
   have ae:=List.mem_eraseDups.1 hi
   grind
def BS (n0:Kp):V->Bool
 | .ptr id _=>n0.has id
 | .iH id _ _ _ _=>n0.has id
 |_=>true
def gI (n0:Kp) (I I':St):Prop:=(∃ext,I'=I++ext)\/n0.of I'=n0.of I
theorem gI.refl {n0:Kp}:gI n0 I I:= .inr rfl
def Fact (P:Program) (c:Ctx) (nt:Nat) (n0:Kp) (ops:List Oper) (q:List (Nat×Nat)) (i:Nat) (o:Oper) (e:Env) (I:St) (v:V) (I':St):Prop:=
 (∀t,o.dst=some t->t<nt)/\(zZ q i o<3->I'=I)/\(zZ q i o=3->gI n0 I I')/\I.length<=I'.length/\
 ∃g:Bool,(match o.guard with|none=>g=true|some (j,want)=> ∃t,jQ ops j=some t/\((∃b,e t= .bool b/\g=(b==want))\/(e t= .cy []/\g=false)))/\
  (if g then(match o.op with
   | .call ⟨.value f,args,_⟩=>(if zZ q i o=0 then∀s,VC P c (zG e f) (args.toList.map (zG e)) s (λr s'=>r=v/\s'=s)else if zZ q i o=1 then∀s,n0.of s=n0.of I->VC P c (zG e f) (args.toList.map (zG e)) s (λr s'=>r=v/\s'=s)else VC P c (zG e f) (args.toList.map (zG e)) I (λr s=>r=v/\s=I'))
   |op=>(zZ q i o<3->cN P o.dst e op)/\(zZ q i o=0->lB op=0)/\(zZ q i o=1->(∃t x,op= .load t x/\BS n0 (zG e x)=true)\/(∀t x,op≠ .load t x)/\ ∀s,n0.of s=n0.of I->ct P e s op=ct P e I op)/\
    ((xU P o.dst e I op= .ok v/\I'=I)\/(∃p,xU P o.dst e I op= .ec p v/\p/\I'=I)\/(3<=zZ q i o/\(xU P o.dst e I op= .st v I'\/ ∃p,xU P o.dst e I op= .dz p v I'/\p))))
   else v= .cy []/\I'=I)
def fQ (e:Env) (d:Option Tmp) (v:V):Env:=match d with|some t=>fm e t v|none=>e
def ot (P:Program) (c:Ctx) (nt:Nat) (n0:Kp) (ops:List Oper) (q:List (Nat×Nat)):Nat->List Oper->Env->St->List (V×St)->Prop
 |_,[],_,_,[]=>True
 |i,o::os,e,I,(v,I')::tr=>Fact P c nt n0 ops q i o e I v I'/\ot P c nt n0 ops q (i+1) os (fQ e o.dst v) I' tr
 |_,_,_,_,_=>False
def fE (D:Nat->Bool):Nat->List Oper->List (V×St)->Env->Env
 |i,o::os,(v,_)::tr,e=>fE D (i+1) os tr (if D i then fQ e o.dst v else e)
 |_,_,_,e=>e
def fS (D:Nat->Bool) (q:List (Nat×Nat)):Nat->List Oper->List (V×St)->St->St
 |i,o::os,(_,I')::tr,s=>fS D q (i+1) os tr (if D i&&decide (3<=zZ q i o)then I' else s)
 |_,_,_,s=>s
theorem yp (e:Env) (d:Option Tmp) (v:V) (t:Tmp) (h:d=some t):fQ e d v t=v:=by simp_all[fQ,fm]
theorem yq (e:Env) (d:Option Tmp) (v:V) (t:Tmp) (h:d≠some t):fQ e d v t=e t:=by
 cases d with
 |none=>rfl
 |some d=>simp only[fQ,fm];grind
theorem pU (D D':Nat->Bool) (t:Tmp): ∀(os:List Oper) (tr:List (V×St)) (i:Nat) (e e':Env),e t=e' t->(∀(k:Nat) o,os[k]? =some o->o.dst=some t->D (i+k)=D' (i+k))->fE D i os tr e t=fE D' i os tr e' t
 | [],_,_,_,_,h,_=>by simpa
 |o::os,[],_,_,_,h,_=>by simpa
 |o::os,(v,s)::tr,i,e,e',h,hD=>by
  rw[fE,fE]
  refine pU D D' t os tr (i+1) _ _ ?_ (λk o' hk hd=>by have:=hD (k+1) o' (sU hk) hd;grind)
  by_cases hd:o.dst=some t
  .have:=hD 0 o rfl hd
   rw[D5]at this
   grind[yp]
  grind[yq]
theorem I4 (D:Nat->Bool) (t:Tmp) (os:List Oper) (tr:List (V×St)) (i:Nat) (e:Env) (h: ∀(k:Nat) o,os[k]? =some o->o.dst=some t->D (i+k)=false):fE D i os tr e t=e t:=by
 have h1:=pU D (λ_=>false) t os tr i e e rfl om
 rw[h1]
 clear h h1
 induction os generalizing tr i with
 |nil=>rfl
 |cons o os ih=>cases tr<;>simp_all[fE]
theorem BT (D:Nat->Bool) (t:Tmp): ∀(os:List Oper) (tr:List (V×St)) (i k:Nat) (e:Env) (o:Oper) (v:V) (s:St),os[k]? =some o->tr[k]? =some (v,s)->o.dst=some t->D (i+k)=true->(∀(k':Nat) o',k<k'->os[k']? =some o'->o'.dst=some t->D (i+k')=false)->fE D i os tr e t=v
 | [],_,_,_,_,_,_,_,h,_,_,_,_=>by grind
 |_::_,[],_,_,_,_,_,_,_,h,_,_,_=>by grind
 |o1::os,(v1,s1)::tr,i,0,e,o,v,s,h1,h2,hd,hD,hl=>by
  simp at h1 h2
  obtain⟨rfl,rfl⟩:=h2
  subst h1
  rw[fE,ahg om,I4]
  .grind[yp]
  .intro k o' hk aa
   have:=hl (k+1) o' om (sU hk) aa
   grind
 |o1::os,(v1,s1)::tr,i,k+1,e,o,v,s,h1,h2,hd,hD,hl=>by
  rw[fE]
  refine BT D t os tr (i+1) k _ o v s (sU h1) (sU h2) hd (by rwa [show i+1+k=i+(k+1) by omega]) λk' o' ad ab aa=> ?_
  have:=hl (k'+1) o' om (sU ab) aa
  rwa [show i+1+k'=i+(k'+1) by omega]
theorem sv (D D':Nat->Bool) (q:List (Nat×Nat)): ∀(os:List Oper) (tr:List (V×St)) (i:Nat) (s:St),(∀(k:Nat) o,os[k]? =some o->3<=zZ q (i+k) o->D (i+k)=D' (i+k))->fS D q i os tr s=fS D' q i os tr s
 | [],_,_,_,_=>by rfl
 |o::os,[],_,_,_=>by rfl
 |o::os,(v,I')::tr,i,s,h=>by
  rw[fS,fS]
  have e1:(if(D i&&decide (3<=zZ q i o))=true then I' else s)=(if(D' i&&decide (3<=zZ q i o))=true then I' else s):=by
   by_cases hk:3<=zZ q i o
   .have:=h 0 o rfl om
    grind
   grind
  rw[e1]
  exact sv D D' q os tr (i+1) _ (λk o' hk hd=>by have:=h (k+1) o' (by grind) (by grind);grind)
theorem yr (D:Nat->Bool) (q:List (Nat×Nat)) (os:List Oper) (tr:List (V×St)) (i:Nat) (s:St) (h: ∀(k:Nat) o,os[k]? =some o->3<=zZ q (i+k) o->D (i+k)=false):fS D q i os tr s=s:=by
 have h1:=sv D (λ_=>false) q os tr i s h
 rw[h1]
 clear h h1
 induction os generalizing tr i with
 |nil=>rfl
 |cons o os ih=>cases tr<;>simp_all[fS]
theorem EU (D:Nat->Bool) (q:List (Nat×Nat)): ∀(os:List Oper) (tr:List (V×St)) (i k:Nat) (s:St) (o:Oper) (v:V) (I':St),os[k]? =some o->tr[k]? =some (v,I')->3<=zZ q (i+k) o->D (i+k)=true->(∀(k':Nat) o',k<k'->os[k']? =some o'->3<=zZ q (i+k') o'->D (i+k')=false)->fS D q i os tr s=I'
 | [],_,_,_,_,_,_,_,h,_,_,_,_=>by grind
 |_::_,[],_,_,_,_,_,_,_,h,_,_,_=>by grind
 |o1::os,(v1,s1)::tr,i,0,s,o,v,I',h1,h2,hd,hD,hl=>by
  simp at h1 h2
  obtain⟨rfl,rfl⟩:=h2
  subst h1
  rw[D5]at hd hD
  rw[fS,ahg (by grind),yr]
  intro k o' hk aa
  have:=hl (k+1) o' om (by grind) (by grind)
  grind
 |o1::os,(v1,s1)::tr,i,k+1,s,o,v,I',h1,h2,hd,hD,hl=>by
  rw[fS]
  refine EU D q os tr (i+1) k _ o v I' (sU h1) (sU h2) (by rwa [show i+1+k=i+(k+1) by omega]) (by rwa [show i+1+k=i+(k+1) by omega]) λk' o' ad ab aa=> ?_
  have:=hl (k'+1) o' om (sU ab) (by rwa [show i+(k'+1)=i+1+k' by omega])
  rwa [show i+1+k'=i+(k'+1) by omega]
theorem EV (ops:List Oper) (q:List (Nat×Nat)): ∀(os:List Oper) (tr:List (V×St)) (i:Nat) (e:Env) (I:St),ot P c nt n0 ops q i os e I tr->
  tr.length=os.length/\ ∀(k:Nat) o,os[k]? =some o-> ∃v I',tr[k]? =some (v,I')/\Fact P c nt n0 ops q (i+k) o (fE (λj=>decide (j<i+k)) i os tr e) (fS (λj=>decide (j<i+k)) q i os tr I) v I'
 | [],[],_,_,_,_=>sm
 | [],_::_,_,_,_,h=>h.elim
 |_::_,[],_,_,_,h=>h.elim
 |o::os,(v,I')::tr,i,e,I,⟨hf,ht⟩=>by
  obtain⟨hl,aa⟩:=EV ops q os tr (i+1) _ _ ht
  refine⟨by grind,λk o' hk=> ?_⟩
  cases k with
  |zero=>
   simp at hk
   subst hk
   refine⟨v,I',rfl, ?_⟩
   rw[D5,fE,fS]
   have h1:(if(λj=>decide (j<i)) i=true then fQ e o.dst v else e)=e:=sm
   have h2:(if((λj=>decide (j<i)) i&&decide (3<=zZ q i o))=true then I' else I)=I:=sm
   rw[h1,h2]
   have e1:fE (λj=>decide (j<i)) (i+1) os tr e=e:=by
    funext t
    grind[I4]
   grind[yr]
  |succ k=>
   obtain⟨v2,s2,h1,h2⟩:=aa k o' (by grind)
   refine⟨v2,s2,by grind, ?_⟩
   rw[show i+(k+1)=i+1+k by omega]
   rw[fE,fS,ahg (by grind)]
   have hs:(if((λj=>decide (j<i+1+k)) i&&decide (3<=zZ q i o))=true then I' else I)=I':=by
    by_cases ab:3<=zZ q i o
    .grind
    .rw[ahf (by grind)]
     exact(hf.2.1 om).symm
   grind
theorem LN (op:Op) (h: ∀x∈op.operands.toList,zG e x=zG e' x):ct P e I op=ct P e' I op:=by
 have hl: ∀l:List Operand,(∀x∈l,zG e x=zG e' x)->l.map (zG e)=l.map (zG e'):=sm
 have dy: ∀ps:List (Nat×Operand),(∀x∈ps.map (·.2),zG e x=zG e' x)->(ps.map λp=>(p.1,zG e p.2))=(ps.map λp=>(p.1,zG e' p.2)):=λps hp=>
  B8 (by grind)
 cases op with
 |build t ps=>grind[ct,Op.operands]
 |buildSlice t n ps=>grind[ct,Op.operands]
 |makeFunc fn first bY=>grind[ct,Op.operands]
 |slice t x lo hi mx=>cases lo<;>cases hi<;>cases mx<;>simp_all[ct,Op.operands]
 |makeMap t r=>cases r<;>simp_all[ct,Op.operands]
 |next x b=>cases b<;>simp_all[ct,Op.operands]
 |call cl=>
  obtain⟨aa,args,ts⟩:=cl
  cases aa with
  |builtin b=>
   have h': ∀x∈args.toList,zG e x=zG e' x:=(by grind[Op.operands,Call.operands])
   obtain⟨args⟩:=args
   cases b<;>simp only[ct]
   all_goals grind
  |_=>simp only[ct]
 |_=>first|rfl|(simp_all[ct,Op.operands];done)
theorem X6 (op:Op) (h: ∀x∈op.operands.toList,zG e x=zG e' x):hZ P e I op=hZ P e' I op:=by
 have hc:=LN (P:=P) (I:=I) op h
 have dy: ∀ps:List (Nat×Operand),(∀x∈ps.map (·.2),zG e x=zG e' x)->(ps.map λp=>(p.1,zG e p.2))=(ps.map λp=>(p.1,zG e' p.2)):=λps hp=>
  B8 (by grind)
 cases op with
 |buildSlice t n ps=>grind[hZ,Op.operands]
 |makeSlice t l m=>grind[hZ,Op.operands]
 |convert t t' x=>grind[hZ,Op.operands]
 |slice t x lo hi mx=>
  cases lo with
  |none=>exact hc
  |some lo=>cases hi with
   |some _=>exact hc
   |none=>cases mx<;>grind[hZ,Op.operands]
 |next x b=>cases b<;>simp_all[hZ,Op.operands]
 |call cl=>
  obtain⟨aa,args,ts⟩:=cl
  cases aa with
  |builtin b=>
   have h': ∀x∈args.toList,zG e x=zG e' x:=(by grind[Op.operands,Call.operands])
   obtain⟨args⟩:=args
   cases b
   case append=>simp only[hZ];grind
   all_goals simpa
  |_=>exact hc
 |_=>exact hc
theorem X7 {d:Option Tmp} (op:Op) (hd:lA e d=lA e' d) (h: ∀x∈op.operands.toList,zG e x=zG e' x):xU P d e I op=xU P d e' I op:=by
 grind[xU,LN,X6]
theorem X8 {I':St} (o:Oper) (hc: ∀f az ts,o.op≠ .call ⟨.value f,az,ts⟩) (h:lB o.op=0):ct P e I o.op=ct P e I' o.op:=by
 obtain⟨dst,op,ty,pos,dX,g⟩:=o
 simp only at h hc⊢
 cases op with
 |call cl=>
  obtain⟨aa,args,ts⟩:=cl
  cases aa with
  |builtin b=>obtain⟨args⟩:=args;cases b<;>first|(simp[lB]at h;done)|(simp only[ct];done)|(simp only[ct];split<;>first|rfl|contradiction|(rename_i heq;simp at heq))
  |value f=>rfl
  |_=>rfl
 |slice t x lo hi mx=>cases lo<;>cases hi<;>cases mx<;>rfl
 |_=>first|rfl|(simp[lB]at h;done)
section
variable {e:Env} {I:St} {a:Act} {w:World} {L:Nat->Nat} {J:ahR}
theorem I5 {ops:List Oper} {Q:Exit->Act->World->Prop} {next:Act->World->Prop} (o:Oper) {K:Env->St->Prop} (h:dP c nt e I a w L J) (hK:tY o.guard ops e (jo P c nt o.dst o.op K e I) (eY nt o.dst (.cy []) K e I))
  (hn: ∀e' I' a' w' L' J',dP c nt e' I' a' w' L' J'->K e' I'->next a' w'):
  if Region.wanted o (yielded ops.toArray a.tmps)then o.wp P a w next Q\/(o.asks P a w/\LetsOut Q)else next (a.put o.dst undef) w:=by
 have no:eY nt o.dst (.cy []) K e I->next (a.put o.dst undef) w:=λhv=>by
  obtain⟨e',hs,hk⟩:=En h h.mem (Le.refl _ _) (Ext.refl _ _) (show dt w L I J (.cy []) undef from⟨[],rfl,tV⟩) hv
  grind
 unfold tY at hK
 split at hK
 .rename_i hg
  rw[ahg (by grind[Region.wanted])]
  grind[IB]
 .rename_i j want hg
  split at hK
  .rename_i t ht
   have hv:=h.env t
   unfold ku at hK
   split at hK
   .rename_i b hb
    rw[hb]at hv
    have hv:=pd hv
    have hy:yielded ops.toArray a.tmps j=some b:=by
     unfold yielded
     unfold jQ at ht
     have aa:(ops.toArray[j]?).bind (·.dst)=some t:=by grind
     rw[aa]
     simp only[Ay]
     have ab:t<a.tmps.size:=by
      rcases Bx t a.tmps.size with q|q
      .exact q
      .simp[Array.getD,Nat.not_lt.2 q,undef]at hv
     simp_all
    by_cases ad:b=want
    .rw[ahg (by grind[Region.wanted])]
     grind[IB]
    simp_all[Region.wanted]
   .rename_i hb
    rw[hb]at hv
    rw[ahf (by grind[Region.wanted,P1])]
    grind
   grind
  grind
theorem yt {d:Option Tmp} {v:V} {K:Env->St->Prop} (hd: ∀t,d=some t->t<nt) (h:K (fQ e d v) I):eY nt d v K e I:=by
 cases d with
 |none=>exact h
 |some t=>exact⟨hd t rfl,h⟩
theorem X9 {t:TypeId} {S:St} {x:V} (h:BS n0 x) (ht:n0.of I=n0.of S):mL P t I x=mL P t S x:=by
 cases x with
 |ptr id off=>
  have:I[id]? =S[id]? :=Kp.get h ht
  grind[mL]
 |iH id s n k j=>
  have:I[id]? =S[id]? :=Kp.get h ht
  grind[mL]
 |_=>rfl
theorem Fact.step {ops:List Oper} {q:List (Nat×Nat)} {i:Nat} {o:Oper} {E:Env} {S:St} {v:V} {I':St} (hf:Fact P c nt n0 ops q i o E S v I') (he: ∀t∈oq ops o,e t=E t) (hs:2<=zZ q i o->I=S) (h1:zZ q i o=1->n0.of I=n0.of S):
  tY o.guard ops e (jo P c nt o.dst o.op (λe' s'=>e'=fQ e o.dst v/\s'=if 3<=zZ q i o then I' else I) e I) (eY nt o.dst (.cy []) (λe' s'=>e'=fQ e o.dst v/\s'=if 3<=zZ q i o then I' else I) e I):=by
 obtain⟨hd,aw,_,_,g,hg,hb⟩:=hf
 have ai: ∀x∈o.op.operands.toList,zG e x=zG E x:=λx hx=>by
  cases x with
  |tmp t=>exact he t (ahC _ (by grind))
  |_=>rfl
 have keep:I'=S->(if 3<=zZ q i o then I' else I)=I:=(by grind)
 have yes:g=true->jo P c nt o.dst o.op (λe' s'=>e'=fQ e o.dst v/\s'=if 3<=zZ q i o then I' else I) e I:=by
  intro an
  rw[ahg an]at hb
  unfold jo
  split
  .rename_i f args ts ab
   rw[ab]at hb ai
   simp only at hb
   have ao:=h1
   have h1:zG e f=zG E f:=(by grind[Op.operands,Call.operands])
   have h2:args.toList.map (zG e)=args.toList.map (zG E):=(by grind[B8,Op.operands,Call.operands])
   rw[h1,h2]
   split at hb
   .rename_i aq
    refine(hb I).mono ?_
    rintro x s' ⟨rfl,rfl⟩
    exact yt hd (by grind)
   .rename_i aq
    split at hb
    .rename_i aa
     refine(hb I (ao aa)).mono ?_
     rintro x s' ⟨rfl,rfl⟩
     exact yt hd (by grind)
    rename_i aa
    rw[hs om]
    refine hb.mono ?_
    rintro x s' ⟨rfl,rfl⟩
    refine yt hd ⟨rfl, ?_⟩
    grind
  .rename_i ax
   have ad:(zZ q i o<3->cN P o.dst E o.op)/\(zZ q i o=0->lB o.op=0)/\(zZ q i o=1->(∃t x,o.op= .load t x/\BS n0 (zG E x)=true)\/(∀t x,o.op≠ .load t x)/\ ∀s,n0.of s=n0.of S->ct P E s o.op=ct P E S o.op)/\((xU P o.dst E S o.op= .ok v/\I'=S)\/(∃p,xU P o.dst E S o.op= .ec p v/\p/\I'=S)\/(3<=zZ q i o/\(xU P o.dst E S o.op= .st v I'\/ ∃p,xU P o.dst E S o.op= .dz p v I'/\p))):=by
    grind
   obtain⟨hh,hz,ho,ad⟩:=ad
   have ay:lA e o.dst=lA E o.dst:=(by grind[X5,oq])
   have ae:xU P o.dst e I o.op=xU P o.dst E S o.op:=by
    by_cases h3:zZ q i o<3
    .have aj:=hh h3
     have ar:cN P o.dst e o.op:=by
      unfold cN at aj⊢
      grind
     rw[pT ar,pT aj,LN o.op ai]
     by_cases h0:zZ q i o=0
     .grind[X8]
     .by_cases aa:zZ q i o=1
      .rcases ho aa with ⟨t,x,ab,ak⟩|⟨_,ak⟩
       .rw[ab]
        exact X9 ak (h1 aa)
       grind
      grind
    grind[X7]
   rw[ae]
   rcases ad with ⟨hr,hq⟩|⟨p,hr,hp,hq⟩|⟨h2,hr|⟨p,hr,hp⟩⟩
   .rw[hr];exact yt (K:=(λe' s'=>e'=fQ e o.dst v/\s'=if 3<=zZ q i o then I' else I)) hd (by grind)
   .rw[hr];exact⟨hp,yt (K:=(λe' s'=>e'=fQ e o.dst v/\s'=if 3<=zZ q i o then I' else I)) hd (by grind)⟩
   .rw[hr]
    show eY nt o.dst v (λe' s'=>e'=fQ e o.dst v/\s'=if 3<=zZ q i o then I' else I) e I'
    exact yt (K:=(λe' s'=>e'=fQ e o.dst v/\s'=if 3<=zZ q i o then I' else I)) hd (by grind)
   .rw[hr]
    show p/\eY nt o.dst v (λe' s'=>e'=fQ e o.dst v/\s'=if 3<=zZ q i o then I' else I) e I'
    exact⟨hp,yt (K:=(λe' s'=>e'=fQ e o.dst v/\s'=if 3<=zZ q i o then I' else I)) hd (by grind)⟩
 have no:g=false->eY nt o.dst (.cy []) (λe' s'=>e'=fQ e o.dst v/\s'=if 3<=zZ q i o then I' else I) e I:=by
  intro au
  rw[ahf (by simp[au])]at hb
  obtain⟨rfl,hq⟩:=hb
  exact yt hd (by grind)
 unfold tY
 split
 .grind
 .rename_i j want av
  rw[av]at hg
  obtain⟨t,ht,af⟩:=hg
  rw[ht]
  simp only
  have:e t=E t:=he t (ahC _ (by grind))
  rcases af with ⟨b,ah,al⟩|⟨ah,al⟩
  .rw[this,ah]
   exact⟨(by grind),(by grind)⟩
  .rw[this,ah]
   exact no al
end
variable {ops:List Oper}{q:List (Nat×Nat)}{i:Nat}{j:Nat}{tr:List (V×St)}
theorem yV {a b:Oper} (h:ue ops q i j a b=false):
  yo (zZ q i a) (zZ q j b)=false/\(∀d,a.dst=some d->d∉oq ops b/\b.dst≠some d)/\(∀d,b.dst=some d->d∉oq ops a):=by
 grind[ue]
theorem wD (q:List (Nat×Nat)) (i:Nat) (o:Oper):zZ q i o<=4:=by
 unfold zZ
 split
 .omega
 .unfold lB
  grind
theorem yu {a b:Nat} (ha:3<=a) (aa:a<=4) (hb:2<=b) (ab:b<=4):yo a b=true:=by
 have h1:a=3\/a=4:=om
 have h2:b=2\/b=3\/b=4:=om
 rcases h1 with rfl|rfl<;>rcases h2 with rfl|rfl|rfl<;>rfl
theorem I6 (a b:Nat):yo a b=yo b a:=by
 grind[yo]
theorem I7 {b:Nat} (hb:1<=b):yo 4 b=true:=by
 grind[yo]
theorem I8 {e0:Env} {cv:St} (ht:ot P c nt n0 ops q 0 ops e0 cv tr) (hn:n0.n<=cv.length):
  ∀(d j:Nat),j+d<=ops.length->(∀(m:Nat) o,j<=m->m<j+d->ops[m]? =some o->zZ q m o≠4)->
   n0.n<=(fS (λx=>decide (x<j)) q 0 ops tr cv).length/\n0.of (fS (λx=>decide (x<j+d)) q 0 ops tr cv)=n0.of (fS (λx=>decide (x<j)) q 0 ops tr cv):=by
 obtain⟨_,aa⟩:=EV ops q ops tr 0 e0 cv ht
 have next: ∀k,k<ops.length-> ∃o v I',ops[k]? =some o/\Fact P c nt n0 ops q k o (fE (λj=>decide (j<k)) 0 ops tr e0) (fS (λj=>decide (j<k)) q 0 ops tr cv) v I'/\fS (λj=>decide (j<k+1)) q 0 ops tr cv=I':=by
  intro k hk
  obtain⟨v,I',ab,hf⟩:=aa k ops[k] sm
  rw[Ad]at hf
  refine⟨ops[k],v,I',sm,hf, ?_⟩
  by_cases h3:3<=zZ q k ops[k]
  .refine EU _ q ops tr 0 k cv ops[k] v I' sm ab (by grind) sm (by grind)
  .have:=hf.2.1 om
   rw[this]
   refine sv _ _ q ops tr 0 cv λm o' hm ad=> ?_
   grind
 have len: ∀j,j<=ops.length->n0.n<=(fS (λx=>decide (x<j)) q 0 ops tr cv).length:=by
  intro j
  induction j with
  |zero=>grind[yr]
  |succ j ih=>
   intro hj
   obtain⟨o,v,I',_,hf,he⟩:=next j om
   rw[he]
   exact B1 om hf.2.2.2.1
 intro d
 induction d with
 |zero=>grind
 |succ d ih=>
  intro j hj h4
  obtain⟨h1,h2⟩:=ih j om (by grind)
  refine⟨h1, ?_⟩
  obtain⟨o,v,I',ho,hf,he⟩:=next (j+d) om
  rw[show j+(d+1)=j+d+1 by omega,he,<-h2]
  have ae:=h4 (j+d) o om om ho
  have hle:=wD q (j+d) o
  by_cases h3:zZ q (j+d) o=3
  .rcases hf.2.2.1 h3 with ⟨ext,hx⟩|hx
   .rw[hx,Kp.lC (len (j+d) om)]
   omega
  .rw[hf.2.1 om]
theorem vz (h:uf ops q) {x y:Oper} (aa:i<j) (hx:ops[i]? =some x) (hy:ops[j]? =some y):
  ue ops q i j x y=false\/i∈(ga ops []).getD j []:=by
 unfold uf at h
 grind
theorem BU {D:Nat->Bool} (hD: ∀(j:Nat) o,ops[j]? =some o->D j=true-> ∀e∈o.after.toList,Region.binds .any e=true->D e.on) (hi:i∈(ga ops []).getD j []) (hj:D j):D i=true:=by
 rw[Ae]at hi
 cases hb:(ga ops [])[j]? with
 |none=>grind
 |some l=>
  rw[hb]at hi
  exact P8 ops (λk=>D k=true) hD ops [] [] rfl rfl sm j l hb hj i (by grind)
theorem P9 {l:Array Bool} (h:l[i]? =some false):(l.setIfInBounds i true).toList.count false+1=l.toList.count false:=by
 grind
theorem Ya {Q:Exit->Env->St->Prop} {e0:Env} {cv:St} (hn:n0.n<=cv.length) (hd:uf ops q) (aw:rb ops) (ht:ot P c nt n0 ops q 0 ops e0 cv tr)
  (hQ:Q .normal (fE (λ_=>true) 0 ops tr e0) (fS (λ_=>true) q 0 ops tr cv)):
  ∀(fuel:Nat) (bM:Array Bool) (a:Act) (w:World) (L:Nat->Nat) (J:ahR),bM.size=ops.length->bM.toList.count false=fuel->
   (∀(j:Nat) o,ops[j]? =some o->bM.getD j false=true-> ∀e∈o.after.toList,Region.binds .any e=true->bM.getD e.on false=true)->
   dP c nt (fE (λi=>bM.getD i false) 0 ops tr e0) (fS (λi=>bM.getD i false) q 0 ops tr cv) a w L J->
   wpAny P .any ops.toArray (fo c nt Q) fuel bM a w:=by
 obtain⟨ax,aJ⟩:=EV ops q ops tr 0 e0 cv ht
 have fin: ∀(bM:Array Bool) (a:Act) (w:World) (L:Nat->Nat) (J:ahR),dP c nt (fE (λi=>bM.getD i false) 0 ops tr e0) (fS (λi=>bM.getD i false) q 0 ops tr cv) a w L J->
   (∀i,i<ops.length->bM.getD i false=true)->fo c nt Q .normal a w:=by
  intro bM a w L J hs ab
  have e1:fE (λi=>bM.getD i false) 0 ops tr e0=fE (λ_=>true) 0 ops tr e0:=by
   funext t
   exact pU _ _ t ops tr 0 e0 e0 rfl λk o hk _=>by rw[Ad];exact ab k (A3.1 hk).1
  have e2:fS (λi=>bM.getD i false) q 0 ops tr cv=fS (λ_=>true) q 0 ops tr cv:=
   sv _ _ q ops tr 0 cv λk o hk _=>by rw[Ad];exact ab k (A3.1 hk).1
  rw[e1,e2]at hs
  exact⟨_,_,L,J,hs,hQ⟩
 have ay: ∀(bM:Array Bool),bM.size=ops.length->Region.ready .any ops.toArray bM= []-> ∀i,i<ops.length->bM.getD i false=true:=by
  intro bM aj hr i
  induction i using Nat.strongRecOn with
  |ind i ih=>
   intro hi
   cases ao:bM.getD i false with
   |true=>rfl
   |false=>
    exfalso
    have hm:i∈Region.ready .any ops.toArray bM:=by
     refine mem_ready.2 ⟨?_,ops[i],by simp[hi],λe he hb=> ?_⟩
     .have af:i<bM.size:=om
      simpa[Array.getD,af]using ao
     .unfold rb at aw
      simp only[Am,Co]at aw
      have:=aw i hi
      rw[A0 hi]at this
      simp only[Ci]at this
      have:=this e he
      simp only[hb,Bool.not_true,C6,ahl]at this
      exact ih e.on this om
    rw[hr]at hm
    cases hm
 intro fuel
 induction fuel with
 |zero=>
  intro bM a w L J aj aB aq hs
  have ab: ∀i,i<ops.length->bM.getD i false:=by
   intro i hi
   have af:i<bM.size:=om
   cases ao:bM[i]with
   |true=>simp[Array.getD,af,ao]
   |false=>
    exfalso
    have:false∈bM.toList:=by
     rw[<-ao];simp
    have:=List.count_pos_iff.2 this
    omega
  refine⟨?_,fin bM a w L J hs ab⟩
  cases hr:Region.ready .any ops.toArray bM with
  |nil=>rfl
  |cons i l=>
   exfalso
   have hm:i∈Region.ready .any ops.toArray bM:=by rw[hr];simp
   obtain⟨h1,o,ho,_⟩:=mem_ready.1 hm
   have hi:i<ops.length:=(A3.1 (sU ho)).1
   have:=ab i hi
   have af:i<bM.size:=om
   simp[Array.getD,af]at this h1
   rw[this]at h1
   cases h1
 |succ fuel ih=>
  intro bM a w L J aj aB aq hs
  refine⟨λhr=>fin bM a w L J hs (ay bM aj hr),λi hi=> ?_⟩
  obtain⟨h1,o,ho,az⟩:=mem_ready.1 hi
  have aa:ops[i]? =some o:=sU ho
  have af:i<bM.size:=by rw[aj];exact(A3.1 aa).1
  have ar:bM.getD i false=false:=by
   simp[Array.getD,af]at h1⊢;exact h1
  have ai: ∀k,k≠i->(bM.setIfInBounds i true).getD k false=bM.getD k false:=λk hk=>getD_set_ne false (λq=>hk q.symm)
  have a1:(bM.setIfInBounds i true).getD i false:=by simp[Array.getD,af]
  have av: ∀(j:Nat) o,ops[j]? =some o->(bM.setIfInBounds i true).getD j false=true-> ∀e∈o.after.toList,Region.binds .any e=true->(bM.setIfInBounds i true).getD e.on false=true:=by
   intro j o' hj aC e he hb
   by_cases aD:j=i
   .subst aD
    rw[aa]at hj
    cases hj
    exact getD_set_true (az e (sU he) hb)
   .rw[ai j aD]at aC
    exact getD_set_true (aq j o' hj aC e he hb)
  have ahead: ∀{k:Nat},k≠i->k∈(ga ops []).getD i []->bM.getD k false=true:=fun{k} hk hb=>by
   have:=BU (D:=λj=>(bM.setIfInBounds i true).getD j false) av hb a1
   rwa [ai k hk]at this
  have mU: ∀{k:Nat},i∈(ga ops []).getD k []->bM.getD k false=false:=fun{k} hb=>by
   cases hk:bM.getD k false with
   |false=>rfl
   |true=>
    have:=BU (D:=λj=>bM.getD j false) aq hb hk
    rw[ar]at this;cases this
  obtain⟨v,I',aE,ak⟩:=aJ i o aa
  rw[Ad]at ak
  have aF: ∀t∈oq ops o,fE (λi=>bM.getD i false) 0 ops tr e0 t=fE (λj=>decide (j<i)) 0 ops tr e0 t:=by
   intro t ax
   refine pU _ _ t ops tr 0 e0 e0 rfl λk o' hk ae=> ?_
   rw[Ad]
   rcases Ba k i with ad|ad|ad
   .rw[ahi ad]
    rcases vz hd ad hk aa with hc|hb
    .exact absurd ax ((yV hc).2.1 t ae).1
    .exact ahead om hb
   .subst ad;rw[ar];simp
   .rw[ahh om]
    rcases vz hd ad aa hk with hc|hb
    .exact absurd ax ((yV hc).2.2 t ae)
    .exact mU hb
  have au:2<=zZ q i o->fS (λi=>bM.getD i false) q 0 ops tr cv=fS (λj=>decide (j<i)) q 0 ops tr cv:=by
   intro ah
   refine sv _ _ q ops tr 0 cv λk o' hk ae=> ?_
   rw[Ad]at ae⊢
   rcases Ba k i with ad|ad|ad
   .rw[ahi ad]
    rcases vz hd ad hk aa with hc|hb
    .have:=(yV hc).1
     rw[yu ae (wD _ _ _) ah (wD _ _ _)]at this
     cases this
    .exact ahead om hb
   .subst ad;rw[ar];simp
   .rw[ahh om]
    rcases vz hd ad aa hk with hc|hb
    .have:=(yV hc).1
     rw[I6,yu ae (wD _ _ _) ah (wD _ _ _)]at this
     cases this
    .exact mU hb
  have aG:zZ q i o=1->n0.of (fS (λi=>bM.getD i false) q 0 ops tr cv)=n0.of (fS (λj=>decide (j<i)) q 0 ops tr cv):=by
   intro aH
   have pre: ∀N,N<=ops.length-> ∃m,m<=N/\ ∀k o',k<N->ops[k]? =some o'->3<=zZ q k o'->bM.getD k false=decide (k<m):=by
    intro N
    induction N with
    |zero=>exact λ_=>⟨0,A7 _,λk o' h=>om⟩
    |succ N aK=>
     intro hN
     obtain⟨m,hm,ab⟩:=aK om
     have aI:=A0 (show N<ops.length by omega)
     by_cases hw:3<=zZ q N (ops[N]'om)/\bM.getD N false=true
     .refine⟨N+1,A7 _,λk o' hk al h3=> ?_⟩
      rw[ahi hk]
      by_cases a6:k=N
      .subst a6;exact hw.2
      .rcases vz hd (show k<N by omega) al aI with hc|hb
       .have:=(yV hc).1
        rw[yu h3 (wD _ _ _) om (wD _ _ _)]at this
        cases this
       .exact BU (D:=λj=>bM.getD j false) aq hb hw.2
     .refine⟨m,om,λk o' hk al h3=> ?_⟩
      by_cases a6:k=N
      .subst a6
       rw[aI]at al;cases al
       rw[ahh om]
       cases hl:bM.getD k false with
       |false=>rfl
       |true=>exact absurd ⟨h3,hl⟩ hw
      .exact ab k o' om al h3
   obtain⟨m,hm,ab⟩:=pre ops.length (A7 _)
   have e1:fS (λi=>bM.getD i false) q 0 ops tr cv=fS (λx=>decide (x<m)) q 0 ops tr cv:=
    sv _ _ q ops tr 0 cv λk o' hk h3=>by
     rw[Ad]at h3⊢
     exact ab k o' (A3.1 hk).1 hk h3
   rw[e1]
   have aQ:i<ops.length:=(A3.1 aa).1
   rcases Nat.le_total m i with aL|aL
   .have:=(I8 ht hn (i - m) m om (λk o' h5 h6 hk h4=>by
     have h7:=ab k o' (A3.1 hk).1 hk om
     rw[ahh om]at h7
     rcases vz hd (show k<i by omega) hk aa with hc|hb
     .have:=(yV hc).1
      rw[h4,aH,I7 dC]at this
      cases this
     .rw[ahead om hb]at h7;cases h7)).2
    rw[show m+(i - m)=i by omega]at this
    exact this.symm
   .have:=(I8 ht hn (m - i) i om (λk o' h5 h6 hk h4=>by
     have h7:=ab k o' (A3.1 hk).1 hk om
     rw[ahi om]at h7
     have ad:k≠i:=λqq=>by
      subst qq
      rw[hk]at aa;cases aa
      omega
     rcases vz hd (show i<k by omega) aa hk with hc|hb
     .have:=(yV hc).1
      rw[I6,h4,aH,I7 dC]at this
      cases this
     .rw[mU hb]at h7;cases h7)).2
    rw[show i+(m - i)=m by omega]at this
    exact this
  have aP:=I5 (ops:=ops) (Q:=fo c nt Q) (next:=wpAny P .any ops.toArray (fo c nt Q) fuel (bM.setIfInBounds i true)) o hs (ak.step aF au aG) (by
   rintro e' s' a' w' L' J' aR ⟨rfl,rfl⟩
   refine ih _ a' w' L' J' (sU aj) ?_ av ?_
   .have:=P9 (l:=bM) (i:=i) (by
     rw[B2 af]
     have:=ar
     simp[Array.getD,af]at this
     rw[this])
    omega
   .have e1:fQ (fE (λi=>bM.getD i false) 0 ops tr e0) o.dst v=fE (λk=>(bM.setIfInBounds i true).getD k false) 0 ops tr e0:=by
     funext t
     by_cases an:o.dst=some t
     .rw[yp _ _ _ _ an]
      refine(BT _ t ops tr 0 i e0 o v I' aa aE an (by rw[Ad];exact a1) λk' o' a7 a8 aA=> ?_).symm
      rw[Ad,ai k' om]
      rcases vz hd a7 aa a8 with hc|hb
      .exact absurd aA ((yV hc).2.1 t an).2
      .exact mU hb
     .rw[yq _ _ _ _ an]
      refine pU _ _ t ops tr 0 e0 e0 rfl λk o' hk ae=> ?_
      rw[Ad]
      refine(ai k λq=> ?_).symm
      subst q
      rw[aa]at hk;cases hk
      exact an ae
    have e2:(if 3<=zZ q i o then I' else fS (λi=>bM.getD i false) q 0 ops tr cv)=fS (λk=>(bM.setIfInBounds i true).getD k false) q 0 ops tr cv:=by
     split
     .rename_i ah
      refine(EU _ q ops tr 0 i cv o v I' aa aE (by rw[Ad];exact ah) (by rw[Ad];exact a1) λk' o' a7 a8 aA=> ?_).symm
      rw[Ad]at aA⊢
      rw[ai k' om]
      rcases vz hd a7 aa a8 with hc|hb
      .have:=(yV hc).1
       rw[yu ah (wD _ _ _) om (wD _ _ _)]at this
       cases this
      .exact mU hb
     .rename_i ah
      refine sv _ _ q ops tr 0 cv λk o' hk ae=> ?_
      rw[Ad]at ae⊢
      refine(ai k λq=> ?_).symm
      subst q
      rw[aa]at hk;cases hk
      exact ah ae
    grind)
  grind[wpOp]
theorem VW.draw {id:Nat} {Q:Exit->Env->St->Prop} {e:Env} {I:St} (hm:P.follows .mixedOrders) (hn:n0.n<=I.length) (hd:uf ops q) (aa:rb ops)
  (ht:ot P c nt n0 ops q 0 ops e I tr) (hQ:Q .normal (fE (λ_=>true) 0 ops tr e) (fS (λ_=>true) q 0 ops tr I)):VW P c nt (.region id ops.toArray true) Q e I:=by
 intro a w L J hs
 refine wp_region_any hm ?_
 have hg: ∀j,(Array.replicate ops.toArray.size false).getD j false=false:=(by simp[Array.getD])
 have e1:fE (λi=>(Array.replicate ops.toArray.size false).getD i false) 0 ops tr e=e:=by
  funext t
  grind[I4]
 have e2:fS (λi=>(Array.replicate ops.toArray.size false).getD i false) q 0 ops tr I=I:=(by grind[yr])
 refine Ya hn hd aa ht hQ _ _ a w.drew L J sm sm (by grind) ?_
 rw[e1,e2]
 obtain⟨ab,hle⟩:=hs.mem.drew
 exact⟨ab,hs.size,hs.defs,λt=>(hs.env t).mono hle (Ext.refl _ _)⟩
end
def pV:R->Bool
 | .st .. | .dz .. =>true
 |_=>false
def yv:R->Bool
 | .all _| .any _=>true
 |_=>false
def jy (n0:Kp) (k:Nat) (I:St):R->Prop
 | .st _ I'| .dz _ _ I'=>I.length<=I'.length/\(k=3->gI n0 I I')
 |_=>True
def fK (P:Program) (c:Ctx) (nt:Nat) (n0:Kp) (k:Nat) (d:Option Tmp) (op:Op) (K:KT) (e:Env) (I:St):Prop:=
 match op with
 | .call ⟨.value f,args,_⟩=> ∃v I',(if k=0 then∀s,VC P c (zG e f) (args.toList.map (zG e)) s (λr s'=>r=v/\s'=s)else if k=1 then∀s,n0.of s=n0.of I->VC P c (zG e f) (args.toList.map (zG e)) s (λr s'=>r=v/\s'=s)else VC P c (zG e f) (args.toList.map (zG e)) I (λr s=>r=v/\s=I'))/\
   (k<3->I'=I)/\(k=3->gI n0 I I')/\I.length<=I'.length/\eY nt d v K e I'
 |op=>(k<3->cN P d e op)/\yv (xU P d e I op)=false/\(k=0->lB op=0)/\(k=1->(∃t x,op= .load t x/\BS n0 (zG e x)=true)\/(∀t x,op≠ .load t x)/\ ∀s,n0.of s=n0.of I->ct P e s op=ct P e I op)/\(pV (xU P d e I op)=true->3<=k)/\jy n0 k I (xU P d e I op)/\lM nt d (xU P d e I op) K e I
def rh (P:Program) (c:Ctx) (nt:Nat) (n0:Kp) (ops:List Oper) (q:List (Nat×Nat)):Nat->List Oper->KT->Env->St->Prop
 |_,[],K,e,I=>K e I
 |i,o::os,K,e,I=>tY o.guard ops e (fK P c nt n0 (zZ q i o) o.dst o.op (rh P c nt n0 ops q (i+1) os K) e I) (eY nt o.dst (.cy []) (rh P c nt n0 ops q (i+1) os K) e I)
section
variable {P:Program} {c:Ctx} {nt:Nat} {n0:Kp}
variable {x:Operand}{t:TypeId}{op:Op}{f:FuncId}{bY:List V}{cc:List V}{KV:V->St->Prop}{ops:List Oper}{i:Nat}{y:Operand}{s1:St}{q:List (Nat×Nat)}{n:Nat}{ts:Array TypeId}
theorem LO {d:Option Tmp} {v:V} {K:KT} {e:Env} {I:St} (h:eY nt d v K e I):(∀t,d=some t->t<nt)/\K (fQ e d v) I:=by
 cases d<;>simpa
theorem BV {ops:List Oper} {q:List (Nat×Nat)}: ∀(os:List Oper) (i:Nat) (K:KT) (e:Env) (I:St),rh P c nt n0 ops q i os K e I->
  ∃tr,ot P c nt n0 ops q i os e I tr/\K (fE (λ_=>true) i os tr e) (fS (λ_=>true) q i os tr I)
 | [],i,K,e,I,h=>⟨[],tV,h⟩
 |o::os,i,K,e,I,h=>by
  have go: ∀(v:V) (I':St),Fact P c nt n0 ops q i o e I v I'->rh P c nt n0 ops q (i+1) os K (fQ e o.dst v) I'-> ∃tr,ot P c nt n0 ops q i (o::os) e I tr/\K (fE (λ_=>true) i (o::os) tr e) (fS (λ_=>true) q i (o::os) tr I):=by
   intro v I' hf hk
   obtain⟨tr,ht,hK⟩:=BV os (i+1) K _ _ hk
   refine⟨(v,I')::tr,⟨hf,ht⟩, ?_⟩
   rw[fE,fS,ahg rfl]
   have:(if((λ_=>true) i&&decide (3<=zZ q i o))=true then I' else I)=I':=by
    by_cases h2:3<=zZ q i o
    .grind
    .rw[ahf (by simp[h2])];exact(hf.2.1 om).symm
   grind
  have yes:(match o.guard with|none=>True|some (j,want)=> ∃t b,jQ ops j=some t/\e t= .bool b/\b=want)->fK P c nt n0 (zZ q i o) o.dst o.op (rh P c nt n0 ops q (i+1) os K) e I->
    ∃tr,ot P c nt n0 ops q i (o::os) e I tr/\K (fE (λ_=>true) i (o::os) tr e) (fS (λ_=>true) q i (o::os) tr I):=by
   intro hg hv
   have af: ∃g:Bool,(match o.guard with|none=>g=true|some (j,want)=> ∃t,jQ ops j=some t/\((∃b,e t= .bool b/\g=(b==want))\/(e t= .cy []/\g=false)))/\g=true:=by
    refine⟨true, ?_,rfl⟩
    grind
   obtain⟨g,ab,rfl⟩:=af
   unfold fK at hv
   split at hv
   .rename_i f args ts aj
    obtain⟨v,I',ak,ah,h3,hlen,hp⟩:=hv
    obtain⟨hd,hk⟩:=LO hp
    refine go v I' ⟨hd,ah,h3,hlen,true,ab, ?_⟩ hk
    grind
   .rename_i al
    obtain⟨an,ad,hz,ao,ae,aa,hv⟩:=hv
    have done: ∀v I',(zZ q i o<3->I'=I)->(zZ q i o=3->gI n0 I I')->I.length<=I'.length->
      ((xU P o.dst e I o.op= .ok v/\I'=I)\/(∃p,xU P o.dst e I o.op= .ec p v/\p/\I'=I)\/(3<=zZ q i o/\(xU P o.dst e I o.op= .st v I'\/ ∃p,xU P o.dst e I o.op= .dz p v I'/\p)))->
      eY nt o.dst v (rh P c nt n0 ops q (i+1) os K) e I'-> ∃tr,ot P c nt n0 ops q i (o::os) e I tr/\K (fE (λ_=>true) i (o::os) tr e) (fS (λ_=>true) q i (o::os) tr I):=by
     intro v I' h2 h3 hlen hf hp
     obtain⟨hd,hk⟩:=LO hp
     refine go v I' ⟨hd,h2,h3,hlen,true,ab, ?_⟩ hk
     grind
    cases hr:xU P o.dst e I o.op with
    |all f=>rw[hr]at ad;trivial
    |any l=>rw[hr]at ad;trivial
    |fail=>rw[hr]at hv;trivial
    |ok v=>rw[hr]at hv;exact done v I sm (λ_=>gI.refl) om (by grind) hv
    |ec p v=>rw[hr]at hv;exact done v I sm (λ_=>gI.refl) om (.inr (.inl ⟨p,hr,hv.1,rfl⟩)) hv.2
    |st v I'=>
     rw[hr]at hv aa
     have h3:=ae (by rw[hr];rfl)
     exact done v I' om aa.2 aa.1 (by grind) hv
    |dz p v I'=>
     rw[hr]at hv aa
     have h3:=ae (by rw[hr];rfl)
     exact done v I' om aa.2 aa.1 (.inr (.inr ⟨h3,.inr ⟨p,hr,hv.1⟩⟩)) hv.2
  have no:(∃j want t,o.guard=some (j,want)/\jQ ops j=some t/\((∃b,e t= .bool b/\b≠want)\/e t= .cy []))->eY nt o.dst (.cy []) (rh P c nt n0 ops q (i+1) os K) e I->
    ∃tr,ot P c nt n0 ops q i (o::os) e I tr/\K (fE (λ_=>true) i (o::os) tr e) (fS (λ_=>true) q i (o::os) tr I):=by
   rintro⟨j,want,t,hg,h1,h2⟩ hv
   obtain⟨hd,hk⟩:=LO hv
   refine go (.cy []) I ⟨hd,λ_=>rfl,λ_=>gI.refl,om,false, ?_, ?_⟩ hk
   all_goals grind
  unfold rh tY at h
  split at h
  .grind
  .rename_i j want hg
   split at h
   .rename_i t ht
    unfold ku at h
    split at h
    .rename_i b hb
     by_cases ai:b=want
     .grind
     .exact no (by grind) (h.2 ai)
    .rename_i hb
     exact no (by grind) h
    grind
   grind
def ri (P:Program) (c:Ctx) (nt:Nat) (n0:Kp) (ops:List Oper) (q:List (Nat×Nat)) (i:Nat) (l:List Oper) (K:KT) (_:Fx ops) (_:Fx l) (_:Fx K) (e:Env) (I:St):Prop:=rh P c nt n0 ops q i l K e I
def eJ (P:Program) (c:Ctx) (nt:Nat) (n0:Kp) (k:Nat) (d:Option Tmp) (op:Op) (K:KT) (_:Fx op) (_:Fx K) (e:Env) (I:St):Prop:=fK P c nt n0 k d op K e I
def pf (P:Program) (c:Ctx) (n0:Kp) (k:Nat) (fv:V) (az:List V) (I:St) (K:V->St->Prop) (_:Fx K):Prop:=
 ∃v I',(if k=0 then∀s,VC P c fv az s (λr s'=>r=v/\s'=s)else if k=1 then∀s,n0.of s=n0.of I->VC P c fv az s (λr s'=>r=v/\s'=s)else VC P c fv az I (λr s=>r=v/\s=I'))/\(k<3->I'=I)/\(k=3->gI n0 I I')/\I.length<=I'.length/\K v I'
theorem yL {id:Nat} {Q:QT} {e:Env} {I:St} (q:List (Nat×Nat)) (n0:Nat) (hn:I.length=n0) (hm:P.follows .mixedOrders) (hd:(uf ops q&&rb ops)) (h:ri P c nt (Kp.pre n0) ops q 0 ops (Q .normal) fx fx fx e I):gx P c nt (.region id ops.toArray true) Q fx fx e I:=by
 simp only[Ab]at hd
 obtain⟨tr,ht,hK⟩:=BV ops 0 (Q .normal) e I h
 exact VW.draw (n0:=Kp.pre n0) hm (by grind) hd.1 hd.2 ht hK
def LP (q:List (Nat×Nat)) (i:Nat) (op:Op):Nat:=match q.find? (·.1==i)with|some p=>min p.2 4|none=>lB op
variable {e:Env} {I:St} {K:KT} {Q:QT} {d:Option Tmp} {k:Nat}
@[go_sem] theorem I9:ri P c nt n0 ops q i [] K fx fx fx e I=K e I:=id rfl
@[go_sem] theorem GB {rest:List Oper} {ty:TypeId} {pos:String} {dX:Array Edge}:ri P c nt n0 ops q i (⟨d,op,ty,pos,dX,none⟩::rest) K fx fx fx e I=
  eJ P c nt n0 (LP q i op) d op (ri P c nt n0 ops q (i+1) rest K fx fx fx) fx fx e I:=id rfl
@[go_sem] theorem EW {rest:List Oper} {ty:TypeId} {pos:String} {dX:Array Edge} {j:Nat} {want:Bool}:ri P c nt n0 ops q i (⟨d,op,ty,pos,dX,some (j,want)⟩::rest) K fx fx fx e I=
  AW (sr ops fx j) want e (eJ P c nt n0 (LP q i op) d op (ri P c nt n0 ops q (i+1) rest K fx fx fx) fx fx e I) (iB nt d (.cy []) (ri P c nt n0 ops q (i+1) rest K fx fx fx) fx e I) fx fx:=id rfl
attribute [go_sem] LP BS
theorem EX (op:Op) (h:lB op<3):pV (ct P e I op)=false:=by
 cases op with
 |call cl=>
  obtain⟨aa,⟨args⟩,ts⟩:=cl
  cases aa with
  |builtin b=>
   cases b
   case len=>simp only[ct];split<;>first|rfl|(rename_i heq;simp at heq;done)|(unfold xe;(repeat' split)<;>rfl)
   case min=>simp only[ct];unfold pI;(repeat' split)<;>rfl
   case max=>simp only[ct];unfold pI;(repeat' split)<;>rfl
   all_goals trivial
  |_=>rfl
 |slice t x lo hi mx=>cases lo<;>cases hi<;>cases mx<;>simp only[ct]<;>first|rfl|(unfold rV;(repeat' split)<;>rfl)|(unfold xh;(repeat' split)<;>rfl)
 |move x=>rfl
 |assign x=>rfl
 |pick x y z=>simp only[ct];unfold w7;(repeat' split)<;>rfl
 |build t ps=>simp only[ct];unfold xf;(repeat' split)<;>rfl
 |buildSlice t n ps=>simp only[ct];unfold vd;(repeat' split)<;>rfl
 |nilCheck x=>simp only[ct];unfold xa;(repeat' split)<;>rfl
 |binOp o t x y t'=>simp only[ct];unfold uX F5 xt mz AI AJ;(repeat' split)<;>rfl
 |unOp o t x=>simp only[ct];unfold mK;(repeat' split)<;>rfl
 |convert t t' x=>simp only[ct];unfold ve;(repeat' split)<;>rfl
 |fieldAddr t x f=>simp only[ct];unfold xc;(repeat' split)<;>rfl
 |field t x f=>simp only[ct];unfold xi;(repeat' split)<;>rfl
 |indexAddr t x i=>simp only[ct];unfold u7;(repeat' split)<;>rfl
 |index t x i=>simp only[ct];unfold u9;(repeat' split)<;>rfl
 |extract x i=>simp only[ct];unfold xb;(repeat' split)<;>rfl
 |makeFunc fn l m=>simp only[ct];unfold xj;(repeat' split)<;>rfl
 |load t x=>simp only[ct];unfold mL;(repeat' split)<;>first|rfl|(unfold qV;(repeat' split)<;>rfl)
 |_=>first|(simp[lB]at h;done)|rfl
theorem vC (op:Op) (h: ∀o t x y t',op≠ .binOp o t x y t'):yv (ct P e I op)=false:=by
 cases op with
 |call cl=>
  obtain⟨aa,⟨args⟩,ts⟩:=cl
  cases aa with
  |builtin b=>
   cases b
   case len=>simp only[ct];split<;>first|rfl|(rename_i heq;simp at heq;done)|(unfold xe;(repeat' split)<;>rfl)
   case append=>simp only[ct];split<;>first|rfl|(rename_i heq;simp at heq;done)|(unfold rS;(repeat' split)<;>rfl)
   case clear=>simp only[ct];split<;>first|rfl|(rename_i heq;simp at heq;done)|(unfold vh;(repeat' split)<;>rfl)
   case delete=>simp only[ct];split<;>first|rfl|(rename_i heq;simp at heq;done)|(unfold xr;(repeat' split)<;>rfl)
   case min=>simp only[ct];unfold pI;(repeat' split)<;>rfl
   case max=>simp only[ct];unfold pI;(repeat' split)<;>rfl
   all_goals rfl
  |_=>rfl
 |slice t x lo hi mx=>cases lo<;>cases hi<;>cases mx<;>simp only[ct]<;>first|rfl|(unfold rV;(repeat' split)<;>rfl)|(unfold xh;(repeat' split)<;>rfl)
 |pick x y z=>simp only[ct];unfold w7;(repeat' split)<;>rfl
 |alloc t=>simp only[ct];unfold qW;(repeat' split)<;>rfl
 |box t x=>simp only[ct];unfold uZ;(repeat' split)<;>rfl
 |store t x y=>simp only[ct];unfold uY;(repeat' split)<;>rfl
 |makeSlice t l m=>simp only[ct];unfold vf;(repeat' split)<;>rfl
 |build t ps=>simp only[ct];unfold xf;(repeat' split)<;>rfl
 |buildSlice t n ps=>simp only[ct];unfold vd;(repeat' split)<;>rfl
 |nilCheck x=>simp only[ct];unfold xa;(repeat' split)<;>rfl
 |binOp o t x y t'=>grind
 |unOp o t x=>simp only[ct];unfold mK;(repeat' split)<;>rfl
 |convert t t' x=>simp only[ct];unfold ve;(repeat' split)<;>rfl
 |fieldAddr t x f=>simp only[ct];unfold xc;(repeat' split)<;>rfl
 |field t x f=>simp only[ct];unfold xi;(repeat' split)<;>rfl
 |indexAddr t x i=>simp only[ct];unfold u7;(repeat' split)<;>rfl
 |index t x i=>simp only[ct];unfold u9;(repeat' split)<;>rfl
 |extract x i=>simp only[ct];unfold xb;(repeat' split)<;>rfl
 |makeFunc fn l m=>simp only[ct];unfold xj;(repeat' split)<;>rfl
 |load t x=>simp only[ct];unfold mL;(repeat' split)<;>first|rfl|(unfold qV;(repeat' split)<;>rfl)
 |makeMap t r=>simp only[ct];unfold xp;(repeat' split)<;>rfl
 |lookup t x k ok=>simp only[ct];unfold xW;(repeat' split)<;>rfl
 |mapUpdate t x k v=>simp only[ct];unfold xT;(repeat' split)<;>rfl
 |insert t x k v=>simp only[ct];unfold xT;(repeat' split)<;>rfl
 |range t x=>simp only[ct];unfold xu;(repeat' split)<;>rfl
 |entry x=>simp only[ct];unfold pL;(repeat' split)<;>rfl
 |makeInterface t x=>simp only[ct];unfold xw;(repeat' split)<;>rfl
 |mapEntry t x k=>simp only[ct];unfold wB;(repeat' split)<;>rfl
 |entryStore t x k v=>simp only[ct];unfold xP;(repeat' split)<;>rfl
 |next x b=>cases b<;>simp only[ct]<;>first|rfl|(unfold mO;(repeat' split)<;>first|rfl|contradiction)
 |_=>rfl
theorem yw {r:R} (h:pV r=false):jy n0 k I r:=by
 cases r<;>first|trivial|cases h
theorem sx (hA: ∀o t x y t',op≠ .binOp o t x y t') (hL: ∀e I,hZ P e I op=ct P e I op) (h:lB op=0) (hc: ∀f az ts,op≠ .call ⟨.value f,az,ts⟩):eJ P c nt n0 0 d op K fx fx e I=eG P c nt d op K fx fx e I:=by
 show fK P c nt n0 0 d op K e I=jo P c nt d op K e I
 have hh:cN P d e op:= .inr hL
 unfold fK jo
 split
 .grind
 .have:=EX (P:=P) (e:=e) (I:=I) op om
  split
  .grind
  grind[yw,pT,vC]
theorem LQ (hA: ∀o t x y t',op≠ .binOp o t x y t') (h:lB op=0) (hc: ∀f az ts,op≠ .call ⟨.value f,az,ts⟩):eJ P c nt n0 0 d op K fx fx e I=sq (cN P d e op) (eG P c nt d op K fx fx e I) fx:=by
 show fK P c nt n0 0 d op K e I=(cN P d e op/\jo P c nt d op K e I)
 by_cases hh:cN P d e op
 .unfold fK jo
  split
  .grind
  .have:=EX (P:=P) (e:=e) (I:=I) op om
   split
   .grind
   grind[yw,pT,vC]
 .unfold fK
  grind
@[go_sem] theorem Qa (h:lA e d=false):cN P d e op=True:=by grind[cN]
theorem LR:cN P d e (.load t x):= .inr λ_ _=>rfl
theorem Yb:eJ P c nt n0 1 d (.load t x) K fx fx e I=sq (BS n0 (zG e x)=true) (eG P c nt d (.load t x) K fx fx e I) fx:=by
 show fK P c nt n0 1 d (.load t x) K e I=(_/\jo P c nt d (.load t x) K e I)
 have:=EX (P:=P) (e:=e) (I:=I) (.load t x) (show 1<3 by omega)
 have h2:jy n0 1 I (ct P e I (.load t x)):=yw this
 have hA:=vC (P:=P) (e:=e) (I:=I) (.load t x) (λ_ _ _ _ _ h=>by cases h)
 simp only[fK,jo,this,h2,pT LR,hA]
 refine propext ⟨λh=> ?_,λh=> ?_⟩
 .grind
 .exact⟨λ_=>LR,tV,om,(by grind),sm,tV,h.2⟩
theorem Yc:eJ P c nt n0 2 d (.load t x) K fx fx e I=eG P c nt d (.load t x) K fx fx e I:=by
 show fK P c nt n0 2 d (.load t x) K e I=jo P c nt d (.load t x) K e I
 have:=EX (P:=P) (e:=e) (I:=I) (.load t x) (show 1<3 by omega)
 grind[yw,vC,fK,jo,pT,LR]
theorem LS:jy n0 4 I (ct P e I op):=by
 by_cases h:lB op<3
 .grind[yw,EX]
 .cases op with
  |alloc t=>simp only[ct];unfold qW;(repeat' split)<;>first|trivial|exact⟨sm,om⟩
  |box t x=>simp only[ct];unfold uZ;(repeat' split)<;>first|trivial|exact⟨sm,om⟩
  |store t x y=>simp only[ct];unfold uY;(repeat' split)<;>first|trivial|exact⟨sm,om⟩
  |makeSlice t l m=>simp only[ct];unfold vf;(repeat' split)<;>first|trivial|exact⟨sm,om⟩
  |makeMap t r=>simp only[ct];unfold xp;(repeat' split)<;>first|trivial|exact⟨sm,om⟩
  |lookup t x k ok=>simp only[ct];unfold xW;(repeat' split)<;>trivial
  |mapUpdate t x k v=>simp only[ct];unfold xT;(repeat' split)<;>first|trivial|exact⟨sm,om⟩
  |insert t x k v=>simp only[ct];unfold xT;(repeat' split)<;>first|trivial|exact⟨sm,om⟩
  |range t x=>simp only[ct];unfold xu;(repeat' split)<;>first|trivial|exact⟨sm,om⟩
  |entry x=>simp only[ct];unfold pL;(repeat' split)<;>trivial
  |makeInterface t x=>simp only[ct];unfold xw;(repeat' split)<;>trivial
  |mapEntry t x k=>simp only[ct];unfold wB;(repeat' split)<;>first|trivial|exact⟨sm,om⟩
  |entryStore t x s v=>simp only[ct];unfold xP;(repeat' split)<;>first|trivial|exact⟨sm,om⟩
  |next x b=>cases b<;>simp only[ct]<;>first|trivial|(unfold mO;(repeat' split)<;>first|trivial|exact⟨sm,om⟩)
  |call cl=>
   obtain⟨aa,⟨args⟩,ts⟩:=cl
   cases aa with
   |builtin b=>
    cases b
    case append=>simp only[ct];split<;>first|trivial|(rename_i heq;simp at heq;done)|(unfold rS;(repeat' split)<;>first|trivial|exact⟨sm,om⟩)
    case clear=>simp only[ct];split<;>first|trivial|(rename_i heq;simp at heq;done)|(unfold vh;(repeat' split)<;>first|trivial|exact⟨sm,om⟩)
    case delete=>simp only[ct];split<;>first|trivial|(rename_i heq;simp at heq;done)|(unfold xr;(repeat' split)<;>first|trivial|exact⟨sm,om⟩)
    all_goals first|(simp[lB]at h;done)|trivial
   |_=>trivial
  |slice t x lo hi mx=>grind[lB]
  |_=>first|(simp[lB]at h;done)|trivial
theorem Qb (op:Op) (hA: ∀o t x y t',op≠ .binOp o t x y t') (hN: ∀x b,op≠ .next x b):yv (hZ P e I op)=false:=by
 have h:=vC (P:=P) (e:=e) (I:=I) op hA
 cases op with
 |buildSlice t n ps=>simp only[hZ];unfold vi;(repeat' split)<;>rfl
 |makeSlice t l m=>simp only[hZ];unfold vg;(repeat' split)<;>rfl
 |convert t t' x=>simp only[hZ];unfold xk;(repeat' split)<;>rfl
 |slice t x lo hi mx=>
  cases lo with
  |none=>exact h
  |some lo=>cases hi with
   |some _=>exact h
   |none=>cases mx with
    |some _=>exact h
    |none=>simp only[hZ];unfold xg;(repeat' split)<;>rfl
 |next x b=>grind
 |call cl=>
  obtain⟨aa,⟨args⟩,ts⟩:=cl
  cases aa with
  |builtin b=>
   cases b
   case append=>simp only[hZ];split<;>first|exact h|(rename_i heq;simp at heq;done)|(unfold rT;(repeat' split)<;>rfl)
   all_goals simpa
  |_=>exact h
 |_=>exact h
theorem Yd:jy n0 4 I (hZ P e I op):=by
 have h:jy n0 4 I (ct P e I op):=LS
 cases op with
 |buildSlice t n ps=>simp only[hZ];unfold vi;(repeat' split)<;>first|trivial|exact⟨sm,om⟩
 |makeSlice t l m=>simp only[hZ];unfold vg;(repeat' split)<;>first|trivial|exact⟨sm,om⟩
 |convert t t' x=>simp only[hZ];unfold xk;(repeat' split)<;>first|trivial|exact⟨sm,om⟩
 |slice t x lo hi mx=>
  cases lo with
  |none=>exact h
  |some lo=>cases hi with
   |some _=>exact h
   |none=>cases mx with
    |some _=>exact h
    |none=>simp only[hZ];unfold xg;(repeat' split)<;>first|trivial|exact⟨sm,om⟩
 |next x b=>cases b<;>simp only[hZ]<;>first|exact h|(unfold mO;(repeat' split)<;>first|trivial|exact⟨sm,om⟩)
 |call cl=>
  obtain⟨aa,⟨args⟩,ts⟩:=cl
  cases aa with
  |builtin b=>
   cases b
   case append=>simp only[hZ];split<;>first|exact h|(rename_i heq;simp at heq;done)|(unfold rT;(repeat' split)<;>first|trivial|exact⟨sm,om⟩)
   all_goals simpa
  |_=>exact h
 |_=>exact h
theorem LU (hA: ∀o t x y t',op≠ .binOp o t x y t') (hN: ∀x b,op≠ .next x b) (hc: ∀f az ts,op≠ .call ⟨.value f,az,ts⟩):eJ P c nt n0 4 d op K fx fx e I=eG P c nt d op K fx fx e I:=by
 show fK P c nt n0 4 d op K e I=jo P c nt d op K e I
 have h1:yv (xU P d e I op)=false:=by
  grind[xU,Qb,vC]
 have h2:jy n0 4 I (xU P d e I op):=by
  grind[xU,Yd,LS]
 unfold fK jo
 grind
theorem Ja (hA: ∀o t x y t',op≠ .binOp o t x y t') (hN: ∀x b,op≠ .next x b) (_: ∀e I,hZ P e I op=ct P e I op) (hc: ∀f az ts,op≠ .call ⟨.value f,az,ts⟩):eJ P c nt n0 4 d op K fx fx e I=eG P c nt d op K fx fx e I:=LU hA hN hc
theorem Jb (hA: ∀o t x y t',op≠ .binOp o t x y t') (hL: ∀e I,hZ P e I op=ct P e I op) (h2:jy n0 3 I (ct P e I op)) (hc: ∀f az ts,op≠ .call ⟨.value f,az,ts⟩):eJ P c nt n0 3 d op K fx fx e I=eG P c nt d op K fx fx e I:=by
 show fK P c nt n0 3 d op K e I=jo P c nt d op K e I
 have hh:cN P d e op:= .inr hL
 unfold fK jo
 split
 .grind
 .split
  .grind
  grind[pT,vC]
def Kp.out (k:Kp) (id:Nat):Bool:=(decide (id<k.x)&&k.ob.isNone)||decide (k.n<=id)
@[go_sem] theorem Kp.Jd {id:Nat}:(Kp.mk 0 n [] none).out id=decide (n<=id):=by rfl
@[go_sem] theorem Kp.Je {x id:Nat}:(Kp.mk (x+1) n [] none).out id=(decide (id<x+1)||decide (n<=id)):=by simp[Kp.out]
def mU (n0:Kp):V->Bool
 | .ptr id _=>n0.out id
 | .iH id _ _ _ _=>n0.out id
 |_=>false
attribute [go_sem] mU
@[go_sem] theorem yx (h:mU n0 (zG e x)):eJ P c nt n0 3 d (.store t x y) K fx fx e I=eG P c nt d (.store t x y) K fx fx e I:=
 Jb sm (λ_ _=>rfl) (by
  simp only[ct]
  unfold uY
  split
  .rename_i id off hx
   rw[hx]at h
   have h:n0.out id:=h
   simp only[Kp.out,C9,Ab,Option.isNone_iff_eq_none,ahl]at h
   (repeat' split)<;>first|trivial|exact⟨sm,λ_=> .inr (Kp.iN h)⟩
  .rename_i id s n k j hx
   rw[hx]at h
   have h:n0.out id:=h
   simp only[Kp.out,C9,Ab,Option.isNone_iff_eq_none,ahl]at h
   (repeat' split)<;>first|trivial|exact⟨sm,λ_=> .inr (Kp.iN h)⟩
  trivial) sm
@[go_sem] theorem EY:eJ P c nt n0 0 d (.move x) K fx fx e I=eG P c nt d (.move x) K fx fx e I:=sx sm (λ_ _=>rfl) rfl sm
@[go_sem] theorem yy:eJ P c nt n0 0 d (.assign x) K fx fx e I=eG P c nt d (.assign x) K fx fx e I:=sx sm (λ_ _=>rfl) rfl sm
@[go_sem] theorem EZ {z:Operand}:eJ P c nt n0 0 d (.pick x y z) K fx fx e I=eG P c nt d (.pick x y z) K fx fx e I:=sx sm (λ_ _=>rfl) rfl sm
@[go_sem] theorem BW {l:Array (Nat×Operand)}:eJ P c nt n0 0 d (.build t l) K fx fx e I=eG P c nt d (.build t l) K fx fx e I:=sx sm (λ_ _=>rfl) rfl sm
@[go_sem] theorem rj {l:Array (Nat×Operand)}:eJ P c nt n0 0 d (.buildSlice t n l) K fx fx e I=sq (cN P d e (.buildSlice t n l)) (eG P c nt d (.buildSlice t n l) K fx fx e I) fx:=LQ sm rfl sm
@[go_sem] theorem GC:eJ P c nt n0 0 d (.nilCheck x) K fx fx e I=eG P c nt d (.nilCheck x) K fx fx e I:=sx sm (λ_ _=>rfl) rfl sm
theorem Ye {op:BinOp} {t':TypeId}:eJ P c nt n0 0 d (.binOp op t x y t') K fx fx e I=sq (yv (wh (pe y) (uX op (iK P t) (zG e x)) (wh (qY y) (xt op (mN P t) (zG e x)) (mz op (iK P t) (ko P t) (zG e x) (zG e y))))=false) (eG P c nt d (.binOp op t x y t') K fx fx e I) fx:=by
 show fK P c nt n0 0 d (.binOp op t x y t') K e I=(yv (ct P e I (.binOp op t x y t'))=false/\jo P c nt d (.binOp op t x y t') K e I)
 have hh:cN P d e (.binOp op t x y t'):= .inr λ_ _=>rfl
 grind[EX,yw,fK,jo,pT,lB]
attribute [go_sem] Ye yv
@[go_sem] theorem Jf {op:UnOp}:eJ P c nt n0 0 d (.unOp op t x) K fx fx e I=eG P c nt d (.unOp op t x) K fx fx e I:=sx sm (λ_ _=>rfl) rfl sm
@[go_sem] theorem E5 {t':TypeId}:eJ P c nt n0 0 d (.convert t t' x) K fx fx e I=sq (cN P d e (.convert t t' x)) (eG P c nt d (.convert t t' x) K fx fx e I) fx:=LQ sm rfl sm
@[go_sem] theorem BX {lo hi mx:Option Operand}:eJ P c nt n0 0 d (.slice t x lo hi mx) K fx fx e I=sq (cN P d e (.slice t x lo hi mx)) (eG P c nt d (.slice t x lo hi mx) K fx fx e I) fx:=LQ sm rfl sm
@[go_sem] theorem sy {f:Nat}:eJ P c nt n0 0 d (.fieldAddr t x f) K fx fx e I=eG P c nt d (.fieldAddr t x f) K fx fx e I:=sx sm (λ_ _=>rfl) rfl sm
@[go_sem] theorem vD {i:Operand}:eJ P c nt n0 0 d (.indexAddr t x i) K fx fx e I=eG P c nt d (.indexAddr t x i) K fx fx e I:=sx sm (λ_ _=>rfl) rfl sm
@[go_sem] theorem GD {i:Operand}:eJ P c nt n0 0 d (.index t x i) K fx fx e I=eG P c nt d (.index t x i) K fx fx e I:=sx sm (λ_ _=>rfl) rfl sm
@[go_sem] theorem vE:eJ P c nt n0 0 d (.extract x i) K fx fx e I=eG P c nt d (.extract x i) K fx fx e I:=sx sm (λ_ _=>rfl) rfl sm
@[go_sem] theorem GF {l:Array Operand}:eJ P c nt n0 0 d (.call ⟨.builtin .len,l,ts⟩) K fx fx e I=eG P c nt d (.call ⟨.builtin .len,l,ts⟩) K fx fx e I:=sx sm (λ_ _=>rfl) rfl sm
@[go_sem] theorem BY:eJ P c nt n0 4 d (.store t x y) K fx fx e I=eG P c nt d (.store t x y) K fx fx e I:=Ja sm sm (λ_ _=>rfl) sm
@[go_sem] theorem yz {l:Array Operand}:eJ P c nt n0 4 d (.call ⟨.builtin .append,l,ts⟩) K fx fx e I=eG P c nt d (.call ⟨.builtin .append,l,ts⟩) K fx fx e I:=(by simp[LU])
@[go_sem] theorem BZ:eJ P c nt n0 3 d (.alloc t) K fx fx e I=eG P c nt d (.alloc t) K fx fx e I:=Jb sm (λ_ _=>rfl) (by
 simp only[ct];unfold qW;split<;>first|trivial|exact⟨sm,λ_=> .inl ⟨_,rfl⟩⟩) sm
attribute [go_sem] Yb Yc
@[go_sem] theorem E6 {f:Operand} {l:List Operand}:eJ P c nt n0 k d (.call ⟨.value f,l.toArray,ts⟩) K fx fx e I=pf P c n0 k (zG e f) (l.map (zG e)) I (LG nt d K fx e) fx:=id rfl
attribute [go_sem] lB
theorem pg {args:List V} {v:V} (hc:Pure P f cc v) (hb:xF P f) (aa: ∀N,bP (cP (cH [] N)) cc (args++bY)) (hn:gA v) (hk:KV v I):
  pf P c n0 0 (.fn f bY) args I KV fx:=by
 refine⟨v,I, ?_,λ_=>rfl,om,om,hk⟩
 rw[ahg rfl]
 exact λs=>zL (P:=P) (c:=c) (KV:=λr s'=>r=v/\s'=s) hc hb (aa _) hn sm
theorem E7 {cZ:ahQ} {I:St}:(xB cZ I s1).length=I.length+(s1.length - cZ.length):=by
 grind[xB,mQ]
theorem Qc {args:List V} {fb:St} {v:V} (hc:bN P f cc fb (λr s=>r=v/\s=s1)) (hb:xF P f) (cZ:ahQ) (ab:cZ.Nodup) (hlen:fb.length=cZ.length)
  (ad: ∀(i j:Nat) (o:Ob),cZ[i]? =some j->fb[i]? =some o->I[j]? =some (yE (cH cZ I.length) o)) (aa:bP (cP (cH cZ I.length)) cc (args++bY))
  (hk:KV (dF (cH cZ I.length) v) (xB cZ I s1)):pf P c n0 4 (.fn f bY) args I KV fx:=by
 refine⟨_,_, ?_,om,om,by grind[E7],hk⟩
 rw[ahf dC,ahf dC]
 refine VC.of hc hb cZ ab hlen ad aa ?_
 simp
theorem LV {args:List V} {fb:St} {v:V} (hc:bN P f cc fb (λr s=>r=v/\s=s1)) (hb:xF P f) (cZ:ahQ) (ab:cZ.Nodup) (hlen:fb.length=cZ.length)
  (ad: ∀(i j:Nat) (o:Ob),cZ[i]? =some j->fb[i]? =some o->I[j]? =some (yE (cH cZ I.length) o)) (aa:bP (cP (cH cZ I.length)) cc (args++bY)) (ae:gI n0 I (xB cZ I s1))
  (hk:KV (dF (cH cZ I.length) v) (xB cZ I s1)):pf P c n0 3 (.fn f bY) args I KV fx:=by
 refine⟨_,_, ?_,om,(by grind),by grind[E7],hk⟩
 rw[ahf dC,ahf dC]
 refine VC.of hc hb cZ ab hlen ad aa ?_
 simp
theorem Yf {args:List V} {v:V} (hc:bN P f cc [] (λr s=>r=v/\s=s1)) (hb:xF P f)
  (aa:bP (cP (cH [] I.length)) cc (args++bY)) (hk:KV (dF (cH [] I.length) v) (I++s1.map (yE (cH [] I.length)))):pf P c n0 3 (.fn f bY) args I KV fx:=by
 have e:xB [] I s1=I++s1.map (yE (cH [] I.length)):=by rfl
 exact LV hc hb [] C1 rfl sm aa (.inl ⟨_,e⟩) (by grind)
theorem Yg {args:List V} {v:V} (hc:Pure P f cc v) (hb:xF P f) (hf: ∀s,n0.of s=n0.of I-> ∃aa I1,nG (args++bY) s aa I1/\bP (cP (cH [] I1.length)) cc aa)
  (ab:Gg v) (hk:KV v I):pf P c n0 1 (.fn f bY) args I KV fx:=by
 refine⟨v,I, ?_,λ_=>rfl,om,om,hk⟩
 rw[ahf dC,ahg rfl]
 intro s hs
 obtain⟨aa,I1,h1,h2⟩:=hf s hs
 exact VC.view hc hb h1 h2 (by grind) sm
end
def At (n0:Nat) (keep:ahQ) (vs:List V) (s:St) (e:Env) (I:St):Prop:=
 ∃pick,gu n0 pick I s/\bP (cP (cH pick I.length)) vs (keep.map e)
def Next {S:Type} (p:S->Prop) (_:Fx p):Prop:= ∃s,p s
theorem zH {S:Type} {p:S->Prop} (s:S) (h:p s):Next p fx:=⟨s,h⟩
section
variable {P:Program} {c:Ctx} {nt:Nat} {e:Env} {I:St} {a:Act} {w:World} {L:Nat->Nat} {J:ahR} {Q:QT} {n0:Nat}
variable {keep:ahQ}{vs:List V}{y:Code}{f:FuncId}{code:Code}{x:Code}{fn:Func}{rs:List ResultVar}{bY:List V}{cc:List V}{KV:V->St->Prop}
theorem zA (h:nH P c nt code Q fx fx e I):gx P c nt code Q fx fx e I:=qZ code Q e I h
theorem Jg {K:KT} (h:gx P c nt x (xz K Q fx fx) fx fx e I) (hy: ∀e' I',K e' I'->gx P c nt y Q fx fx e' I'):gx P c nt (.seq x y) Q fx fx e I:=by
 intro a w L J hs
 refine wp_seq (wp_mono (h a w L J hs) λex a' w' q=> ?_)
 cases ex with
 |normal=>obtain⟨e',I',L',J',aa,hq⟩:=q;exact hy e' I' hq a' w' L' J' aa
 |exit id=>exact q
 |goto l=>exact q
 |ret=>exact q
 |panic ch=>exact q
 |outgrown=>exact q
theorem zN (h:gx P c nt x (xz (gx P c nt y Q fx fx) Q fx fx) fx fx e I):gx P c nt (.seq x y) Q fx fx e I:=(by grind[Jg])
theorem y4 {id:Nat} {b:Code} (h:gx P c nt b (pQ id Q fx) fx fx e I):gx P c nt (.block id b) Q fx fx e I:=by
 intro a w L J hs
 refine wp_block (wp_mono (h a w L J hs) λex a' w' q=> ?_)
 cases ex with
 |exit aa=>
  obtain⟨e',I',L',J',ab,hq⟩:=q
  change (if aa=id then Q .normal e' I' else Q (.exit aa) e' I')at hq
  change (if aa=id then fo c nt Q .normal a' w' else fo c nt Q (.exit aa) a' w')
  split
  .rename_i hid
   rw[ahg hid]at hq
   exact⟨e',I',L',J',ab,hq⟩
  .rename_i hid
   rw[ahf hid]at hq
   exact⟨e',I',L',J',ab,hq⟩
 |normal=>exact q
 |goto l=>exact q
 |ret=>exact q
 |panic ch=>exact q
 |outgrown=>exact q
theorem Jh {b:Bool} {x:Operand} {t f:Code} (hx:zG e x= .bool b) (ht:b=true->gx P c nt t Q fx fx e I) (hf:b=false->gx P c nt f Q fx fx e I):gx P c nt (.cond x t f) Q fx fx e I:=by
 intro a w L J hs
 have hv:=hs.eval x
 rw[hx]at hv
 exact wp_cond_split (pd hv) (λh=>ht h a w L J hs) (λh=>hf h a w L J hs)
theorem Yh {s:St} (hn:c.cv.length=n0) (hc:c.β0.length=c.cv.length) (hk:At n0 keep vs s e I) (hy:gx P c nt y Q fx fx (mT (keep.zip vs)) s):gx P c nt y Q fx fx e I:=by
 intro a w L J hs
 subst hn
 obtain⟨pick,hp,aa⟩:=hk
 obtain⟨gT,s',J',⟨rfl,rfl⟩,_,ab⟩:=LF (Inv:=λgT s' _=>gT=vs/\s'=s) (m:=0) hs hc ⟨vs,s,pick,hp,aa,rfl,rfl⟩
 exact hy a w L J' ab
theorem nI {S:Type} (keep:ahQ) (aa:S->List V) (ab:S->St) (uU:S->Prop) (hn:c.cv.length=n0) (hc:c.β0.length=c.cv.length)
  (hx:gx P c nt x (xz (λe' I'=>Next (λs=>uU s/\At n0 keep (aa s) (ab s) e' I') fx) Q fx fx) fx fx e I)
  (hy: ∀s,uU s->gx P c nt y Q fx fx (mT (keep.zip (aa s))) (ab s)):gx P c nt (.seq x y) Q fx fx e I:=
 Jg hx λ_ _ ⟨s,hI,ad⟩=>(by grind[Yh])
theorem zI {body:Code} {S:Type} (keep:ahQ) (aa:S->List V) (ad:S->St) (ab:S->Nat) (uU:S->Prop) (hn:c.cv.length=n0) (hc:c.β0.length=c.cv.length)
  (s0:S) (hI:uU s0) (h0:At n0 keep (aa s0) (ad s0) e I)
  (hr: ∀s,uU s->gx P c nt body (xz (λe' I'=>Next (λs'=>ab s'<ab s/\uU s'/\At n0 keep (aa s') (ad s') e' I') fx) Q fx fx) fx fx (mT (keep.zip (aa s))) (ad s)):gx P c nt (.loop body) Q fx fx e I:=by
 subst hn
 intro a w L J hs
 refine P4 (λm a w=> ∃s L J,m=ab s/\uU s/\dP c nt (mT (keep.zip (aa s))) (ad s) a w L J) (ab s0) ?_ ?_
 .obtain⟨pick,hp,ae⟩:=h0
  obtain⟨gT,s',J',⟨rfl,rfl⟩,_,af⟩:=LF (Inv:=λgT s' _=>gT=aa s0/\s'=ad s0) (m:=0) hs hc ⟨_,_,pick,hp,ae,rfl,rfl⟩
  grind
 .rintro m a w ⟨s,L,J,rfl,ah,hs⟩
  refine wp_mono (hr s ah a w L J hs) λx a' w' q=> ?_
  cases x with
  |normal=>
   obtain⟨e',I',L',J',af,s',ai,aj,pick,hp,ae⟩:=q
   obtain⟨gT,s2,J2,⟨rfl,rfl⟩,_,ak⟩:=LF (Inv:=λgT s2 _=>gT=aa s'/\s2=ad s') (m:=0) af hc ⟨_,_,pick,hp,ae,rfl,rfl⟩
   exact⟨ab s',ai,s',L',J2,rfl,aj,ak⟩
  |exit id=>exact q
  |goto l=>exact q
  |ret=>exact q
  |panic ch=>exact q
  |outgrown=>exact q
theorem zO {ρ:Nat->Nat} {l m:List V} (h:l=m) (hn:l.all gA):bP (cP ρ) l m:=by grind[yF]
theorem rk {n N:Nat}: ∀{l:List V},l.all (iL n)=true->bP (cP (cH (List.range n) N)) l l
 | [],_=>trivial
 |v::l,h=>by
  simp only[Bv,Ab]at h
  exact⟨lR h.1,rk h.2⟩
theorem zD {n N:Nat} {l m:List V} (h:l=m) (hn:l.all (iL n)):bP (cP (cH (List.range n) N)) l m:=by grind[rk]
theorem ia {Qd:Nat} (hN:I.length=Qd) (h:bP (cP (cH [] Qd)) vs (keep.map e)):At 0 keep vs [] e I:=by
 subst hN
 exact⟨[],⟨rfl,C1,sm,om⟩,h⟩
theorem cd (k:Nat) {s:St} (hs:I.take k=s) (hk:s.length=k) (cN:s.all (bT k)) (hn:n0<=k) (h:bP (cP (cH (List.range k) I.length)) vs (keep.map e)):At n0 keep vs s e I:=by
 subst hs
 have h1:I.take k++I.drop k=I:=sm
 have hp:=P7 (n0:=n0) (s:=I.take k) (loc:=I.drop k) (by rw[hk];exact cN) (by rw[hk];exact hn)
 rw[h1,hk]at hp
 exact⟨_,hp,h⟩
theorem CA (pick:ahQ) {s:St} (ab:pick.Nodup) (hn:n0=0) (aa:bP (λo j=>I[j]? =some (yE (cH pick I.length) o)) s pick) (h:bP (cP (cH pick I.length)) vs (keep.map e)):At n0 keep vs s e I:=by
 subst hn
 refine⟨pick,⟨aa.length,ab,λi j o hi ho=> ?_,om⟩,h⟩
 obtain⟨j',ad,hr⟩:=aa.get i o ho
 grind
theorem bN.ib {nt:Nat} {args:List V} {R:V->St->Prop} (n0:Nat) (hf:P.funcs[f]? =some fn) (aa:fn.ntmps=nt) (ab:fn.results=rs.toArray) (hb:fn.body=some code) (h0:I.length=n0) (ad:args.length<=nt)
  (h: ∀c:Ctx,c.cv.length=n0->c.β0.length=c.cv.length->gx P c nt code (lP P rs n0 R) fx fx (jS 0 args) I):bN P f args I R:=bN.oj n0 hf aa ab hb h0 ad h
theorem y5 (t:Nat) (hn:nt<=100000) (hy:gx P c nt y Q fx fx (fm e (100000+t) (.cy [])) I):gx P c nt y Q fx fx e I:=by
 intro a w L J hs
 refine hy a w L J ⟨hs.mem,hs.size,hs.defs,λk=> ?_⟩
 simp only[fm]
 split
 .rename_i hk
  subst hk
  refine⟨[], ?_,tV⟩
  have: ¬(100000+t<a.tmps.size):=by rw[hs.size];omega
  simp[Array.getD,this,undef]
 .exact hs.env k
theorem E8 (id s:Nat) (rows:List (List V)) (cG:I[id]? =some (.cj rows s)) (hp:xQ rows) (hy:gx P c nt y Q fx fx (λt=>fZ id rows (e t)) (jx id rows I)):gx P c nt y Q fx fx e I:=by
 intro a w L J hs
 obtain⟨h1,h2,h3,h4⟩:=PT hs.mem cG hp
 exact hy a w _ J ⟨h1,hs.size,hs.defs,λt=>h4 _ _ (hs.env t)⟩
theorem Qe {args ab:List V} {v:V} {I1:St} (hc:Pure P f cc v) (hb:xF P f) (hf:nG (args++bY) I ab I1)
  (aa:bP (cP (cH [] I1.length)) cc ab) (ad:Gg v) (hk:KV v I):iZ P c (.fn f bY) args I KV fx:=
 VC.view hc hb hf aa (by grind) (by grind)
attribute [go_sem] fZ fY gi fP mR jx
attribute [go_sem] Dw List.zip_nil_left List.zip_nil_right
theorem iV {nt:Nat} {args:List V} {R:V->St->Prop} (n0:Nat) (hf:P.funcs[f]? =some fn) (aa:fn.ntmps=nt) (ab:fn.results=rs.toArray)
  (h: ∀c:Ctx,c.cv.length=n0->c.β0.length=c.cv.length->gx P c nt code (lP P rs n0 R) fx fx (jS 0 args) I) (hb:fn.body=some code:=by rfl) (h0:I.length=n0:=by rfl) (ad:args.length<=nt:=by exact C5 rfl):bN P f args I R:=(by simp_all[bN.ib])
theorem iW {nt:Nat} {args:List V} {R:V->St->Prop} (n0:Nat) (hf:P.funcs[f]? =some fn) (aa:fn.ntmps=nt) (ab:fn.results=rs.toArray)
  (h: ∀c:Ctx,c.cv.length=n0->c.β0.length=c.cv.length->pN P c nt code (lP P rs n0 R) (jS 0 args) I) (hb:fn.body=some code:=by rfl) (h0:I.length=n0:=by rfl) (ad:args.length<=nt:=by exact C5 rfl):bN P f args I R:=(by simp_all[bN.intro])
theorem aN (k:Nat) {s:St} (cN:s.all (bT k)) (hs:I.take k=s:=by simp[go_sem]) (hk:s.length=k:=by rfl) (hn:n0<=k:=by omega) (h:vs=keep.map e:=by simp[go_sem]) (hv:vs.all (iL k)=true:=by rfl):At n0 keep vs s e I:=(by grind[cd,zD])
theorem aM (k:Nat) {s:St} (cN:s.all (bT k)) (h:bP (cP (cH (List.range k) I.length)) vs (keep.map e)) (hs:I.take k=s:=by simp[go_sem]) (hk:s.length=k:=by rfl) (hn:n0<=k:=by omega):At n0 keep vs s e I:=(by grind[cd])
theorem aO (h:vs=keep.map e:=by simp[go_sem]) (hv:vs.all gA=true:=by rfl):At 0 keep vs [] e I:=ia rfl (zO h hv)
theorem pC {args:List V} {v:V} (hc:Pure P f cc v) (hk:KV v I) (aa:bP (cP (cH [] I.length)) cc (args++bY):=by first|exact yF rfl|exact⟨zK,yF rfl⟩|exact⟨zK,zK,yF rfl⟩|exact⟨zC rfl,zK,yF rfl⟩|exact⟨zK,zK,zK,yF rfl⟩|exact⟨zK,zC rfl,zK,yF rfl⟩|exact⟨zC rfl,zK,zK,yF rfl⟩|exact⟨zC rfl,zC rfl,zK,yF rfl⟩|exact⟨zK,zK,zK,zK,yF rfl⟩|exact⟨zK,zK,zC rfl,zK,yF rfl⟩|exact⟨zK,zC rfl,zK,zK,yF rfl⟩|exact⟨zK,zC rfl,zC rfl,zK,yF rfl⟩|exact⟨zC rfl,zK,zK,zK,yF rfl⟩|exact⟨zC rfl,zK,zC rfl,zK,yF rfl⟩|exact⟨zC rfl,zC rfl,zK,zK,yF rfl⟩|exact⟨zC rfl,zC rfl,zC rfl,zK,yF rfl⟩)
  (hb:xF P f=true:=by kernel_rfl) (hn:gA v=true:=by rfl):iZ P c (.fn f bY) args I KV fx:=(by grind[zL])
theorem pD {n0:Kp} {args:List V} {v:V} (hc:Pure P f cc v) (hk:KV v I) (aa: ∀N,bP (cP (cH [] N)) cc (args++bY):=by first|exact λ_=>yF rfl|exact λ_=>⟨zK,yF rfl⟩|exact λ_=>⟨zK,zK,yF rfl⟩|exact λ_=>⟨zC rfl,zK,yF rfl⟩|exact λ_=>⟨zK,zK,zK,yF rfl⟩|exact λ_=>⟨zK,zC rfl,zK,yF rfl⟩|exact λ_=>⟨zC rfl,zK,zK,yF rfl⟩|exact λ_=>⟨zC rfl,zC rfl,zK,yF rfl⟩|exact λ_=>⟨zK,zK,zK,zK,yF rfl⟩|exact λ_=>⟨zK,zK,zC rfl,zK,yF rfl⟩|exact λ_=>⟨zK,zC rfl,zK,zK,yF rfl⟩|exact λ_=>⟨zK,zC rfl,zC rfl,zK,yF rfl⟩|exact λ_=>⟨zC rfl,zK,zK,zK,yF rfl⟩|exact λ_=>⟨zC rfl,zK,zC rfl,zK,yF rfl⟩|exact λ_=>⟨zC rfl,zC rfl,zK,zK,yF rfl⟩|exact λ_=>⟨zC rfl,zC rfl,zC rfl,zK,yF rfl⟩)
  (hb:xF P f=true:=by kernel_rfl) (hn:gA v=true:=by rfl):pf P c n0 0 (.fn f bY) args I KV fx:=(by grind[pg])
theorem wR {R:V->St->Prop} {v r:V} (hr:cP (cH [] I.length) r v:=by exact zC rfl) (hR:R r []:=by exact⟨rfl,rfl⟩):cw (some v) 0 R I:=zX hr hR
end
end Go.Vx
