/-
  Walks with cuts: a statement's end held by the slots that are read later, what follows proved once.
  No condition: a library text; nothing of the program is named.
-/
import Derived.Test.YtefbicjgbaaieaaGreatJAC
import Derived.Orders
set_option maxHeartbeats 8000000
namespace Go.Vx
open Go
section
variable {P:Program} {c:Ctx} {nt:Nat} {e:Env} {σ:St} {a:Act} {w:World} {L:Nat->Nat} {β:List Value}
variable {fn:Func}{code:Code}
def envA:Nat->List V->Env
 |_,[]=>env0
 |i,v::vs=>upd (envA (i+1) vs) i v
theorem yf3: ∀(vs:List V) (i t:Nat),envA i vs (i+t)=vs.getD t .u
 | [],_,_=>by rfl
 |v::vs,i,0=>by simp[envA,upd]
 |v::vs,i,t+1=>by
  simp only[envA,upd]
  rw[if_neg om]
  have:=yf3 vs (i+1) t
  grind
def yu8 (P:Program) (e:Env) (σ:St):ResultVar->Option V
 | .tmp t=>some (e t)
 | .cell t T=>(match zh9 P T σ (e t)with| .ok v=>some v|_=>none)
def zP4 (P:Program) (e:Env) (σ:St):List ResultVar->Option (List V)
 | []=>some []
 |r::rs=>(match yu8 P e σ r,zP4 P e σ rs with|some v,some vs=>if za6 v=true then some (v::vs)else none|_,_=>none)
def retV (P:Program) (rs:List ResultVar) (e:Env) (σ:St):Option V:=
 match rs with
 | [r]=>yu8 P e σ r
 |rs=>(zP4 P e σ rs).map .tup
def resS (a:Act):ResultVar->Sem Value
 | .tmp t=>pure (a.tmps.getD t undef)
 | .cell t T=>do loadVar T (<-asAddr (a.tmps.getD t undef))
theorem yW8 (fn:Func) (a:Act):results fn a.tmps=(do let vs<-fn.results.mapM (resS a);pure (if h:vs.size=1 then vs[0]else .tuple vs)):=by
 rfl
theorem xD9 (h:Sim c nt e σ a w L β) {r:ResultVar} {v:V} (hv:yu8 P e σ r=some v):
  ∃x,(resS a r).run P w= .ok x w/\RdS w L σ β v x:=by
 cases r with
 |tmp t=>
  simp only[yu8,Option.some.injEq]at hv
  subst hv
  exact⟨_,rfl,h.env t⟩
 |cell t T=>
  simp only[yu8]at hv
  split at hv
  .rename_i v' hl
   simp only[Option.some.injEq]at hv
   subst hv
   obtain⟨bl,off,z,hy,hz,r⟩:=yK2 (P:=P) T h.mem (h.env t) hl
   grind[resS,asAddr]
  grind
theorem yu7 (h:Sim c nt e σ a w L β): ∀(rs:List ResultVar) (vs:List V),zP4 P e σ rs=some vs->
  ∃xs:List Value,(rs.mapM (resS a)).run P w= .ok xs w/\All2 (RdA w L σ β) vs xs/\xs.length=rs.length
 | [],vs,hv=>by
  simp only[zP4,Option.some.injEq]at hv
  subst hv
  exact⟨[],rfl,tV,rfl⟩
 |r::rs,vs,hv=>by
  simp only[zP4]at hv
  split at hv
  .rename_i v vs' h1 h2
   split at hv
   .rename_i hh
    simp only[Option.some.injEq]at hv
    subst hv
    obtain⟨x,hx,hr⟩:=xD9 (P:=P) h h1
    obtain⟨xs,aa,ab,hl⟩:=yu7 h rs vs' h2
    refine⟨x::xs, ?_,⟨yu6 hr hh,ab⟩,by simp[hl]⟩
    rw[List.mapM_cons]
    simp only[Sem.run_bind,hx,Result.andThen_ok,aa,Sem.run_pure]
   .cases hv
  .cases hv
theorem xP4 (h:Sim c nt e σ a w L β) {v:V} (hv:retV P fn.results.toList e σ=some v): ∃x,(results fn a.tmps).run P w= .ok x w/\RdS w L σ β v x:=by
 have ab: ∀xs:List Value,(fn.results.toList.mapM (resS a)).run P w= .ok xs w->
   (results fn a.tmps).run P w= .ok (if hs:xs.toArray.size=1 then xs.toArray[0]else .tuple xs.toArray) w:=by
  grind[yW8,Array.mapM_eq_mapM_toList,Sem.run_bind,Sem.run_map,Result.andThen_ok,Sem.run_pure]
 unfold retV at hv
 split at hv
 .rename_i r hr
  obtain⟨x,hx,ad⟩:=xD9 (P:=P) h hv
  simp_all
 .rename_i rs ae
  cases ha:zP4 P e σ fn.results.toList with
  |none=>grind
  |some vs=>
   rw[ha]at hv
   simp only[Bg,Option.some.injEq]at hv
   subst hv
   obtain⟨xs,af,aa,hl⟩:=yu7 (P:=P) h _ _ ha
   refine⟨.tuple xs.toArray, ?_,xs,rfl,aa⟩
   have hn: ¬xs.toArray.size=1:=by
    intro q
    simp only[List.size_toArray]at q
    rw[hl]at q
    obtain⟨r,hr⟩:=List.length_eq_one_iff.1 q
    grind
   grind
def VRet (n0:Nat) (R:V->St->Prop) (v:V) (σ:St):Prop:=
 ∃v1 σ1 pick σ' r,Frz [v] σ [v1] σ1/\Picks n0 pick σ1 σ'/\argS (ren pick σ1.length) r v1/\R r σ'
def retQ (P:Program) (rs:List ResultVar) (n0:Nat) (R:V->St->Prop):Exit->Env->St->Prop
 | .normal,e,σ| .ret,e,σ=> ∃v,retV P rs e σ=some v/\VRet n0 R v σ
 |_,_,_=>False
theorem VCalls.introW {f:FuncId} {nt:Nat} {rs:List ResultVar} {args:List V} {σ:St} {R:V->St->Prop} (n0:Nat) (hf:P.funcs[f]? =some fn) (af:fn.ntmps=nt) (ad:fn.results=rs.toArray) (hb:fn.body=some code) (h0:σ.length=n0) (al:args.length<=nt)
  (h: ∀c:Ctx,c.σ0.length=n0->c.β0.length=c.σ0.length->VW P c nt code (retQ P rs n0 R) (envA 0 args) σ):VCalls P f args σ R:=by
 subst af
 subst h0
 have ad:fn.results.toList=rs:=by rw[ad]
 subst ad
 intro w L β aa hm ha
 have hlen:=ha.length
 refine calls_of_wp hf hb ?_
 have ae:Sim (entry w L σ β) fn.ntmps (envA 0 args) σ {tmps:=aa.toArray++Array.replicate (fn.ntmps - aa.toArray.size) undef,defers:= []} w L β:=by
  refine⟨hm,by grind,rfl,fun t=> ?_⟩
  have e1:=yf3 args 0 t
  rw[Ae]at e1
  rw[e1]
  by_cases ht:t<args.length
  .obtain⟨x,hx,r⟩:=ha.get t _ (A0 ht)
   have:(aa.toArray++Array.replicate (fn.ntmps - aa.toArray.size) undef).getD t undef=x:=by
    rw[Array.getD_eq_getD_getElem?,Dp (by grind)]
    grind
   grind
  .rw[A8,D6 om]
   trivial
 refine wp_mono (h (entry w L σ β) rfl hm.len _ w L β ae) fun x a' w' q=> ?_
 have fin: ∀{x:Exit},(x= .normal∨x= .ret)->Lift (entry w L σ β) fn.ntmps (retQ P fn.results.toList σ.length R) x a' w'->
   a'.defers= []/\ ∃v,(results fn a'.tmps).run P w'= .ok v w'/\ ∃v' r L' σ' β',Ending.returned v=Ending.returned v'/\R r σ'/\σ.length<=σ'.length/\Mem (entry w L σ β) w' L' σ' β'/\RdS w' L' σ' β' r v':=by
  intro x hx q
  have hq: ∃e' σ' L' β',Sim (entry w L σ β) fn.ntmps e' σ' a' w' L' β'/\ ∃v,retV P fn.results.toList e' σ'=some v/\VRet σ.length R v σ':=by
   rcases hx with rfl|rfl<;>exact q
  obtain⟨e',σ0,an,β1,hs,v,hv,v1,σ1,pick,σ',r,ag,hp,ah,hR⟩:=hq
  obtain⟨x,hx,ak⟩:=xP4 (P:=P) hs hv
  obtain⟨L',β2,ab,_,_,ai,_⟩:=ag.ok hs.mem (xs:= [x]) (by trivial)
  refine⟨hs.defs,x,hx,x,r,L',σ',_,rfl,hR, ?_,ab.pick hp hm.len,zx9 (hp.bak ab.len) ah ai⟩
  rw[hp.len]
  rcases C1 pick.length σ.length with aj|ao
  .have:=(A6.1 (hp.id pick.length aj)).1
   omega
  omega
 cases x with
 |normal=>exact fin (.inl rfl) q
 |ret=>exact fin (.inr rfl) q
 |exit id=>obtain⟨e',σ',L',β',hs,hq⟩:=q;simpa
 |goto l=>simpa
 |panic ch=>trivial
 |outgrown=>trivial
theorem VCalls.intro {f:FuncId} {nt:Nat} {rs:List ResultVar} {args:List V} {σ:St} {R:V->St->Prop} (n0:Nat) (hf:P.funcs[f]? =some fn) (aa:fn.ntmps=nt) (ab:fn.results=rs.toArray) (hb:fn.body=some code) (h0:σ.length=n0) (ad:args.length<=nt)
  (h: ∀c:Ctx,c.σ0.length=n0->c.β0.length=c.σ0.length->zD0 P c nt code (retQ P rs n0 R) (envA 0 args) σ):VCalls P f args σ R:=
 VCalls.introW n0 hf aa ab hb h0 ad (by grind[zg7])
theorem yb1 {Q:Exit->Act->World->Prop} (I:Nat->Act->World->Prop) (n:Nat) (h₀:I n a w)
  (round: ∀n a w,I n a w->code.wp P (Exit.then (fun a' w'=> ∃m,m<n/\I m a' w') Q) a w):(Code.loop code).wp P Q a w:=by
 intro b k cs
 have key: ∀n a w,I n a w-> ∃e a' w',Q e a' w'/\Arrives P (lone (b.at a (.code code:: .inLoop code::k)) cs w) b k cs e a' w':=by
  intro n
  induction n using Nat.strongRecOn with
  |_ n ih=>
   intro a w hI
   obtain⟨e,a₁,w₁,hq,aa⟩:=round n a w hI b (.inLoop code::k) cs
   cases e with
   |normal=>
    obtain⟨m,ad,ae⟩:=hq
    obtain⟨e₂,a₂,w₂,af,ab⟩:=ih m ad a₁ w₁ ae
    exact⟨e₂,a₂,w₂,af,.of_steps (Steps.trans aa (.one step_inLoop)) ab⟩
   |exit id=>exact⟨_,a₁,w₁,hq,(by simpa)⟩
   |goto l=>exact⟨_,a₁,w₁,hq,(by simpa)⟩
   |ret=>exact⟨_,a₁,w₁,hq,(by simpa)⟩
   |panic ch=>exact⟨_,a₁,w₁,hq,(by simpa)⟩
   |outgrown=>exact⟨_,a₁,w₁,hq,(by simpa)⟩
 obtain⟨e,a',w',hq,aa⟩:=key n a w h₀
 exact⟨e,a',w',hq,.of_steps (.one step_loop) aa⟩
def envK:List (Nat×V)->Env
 | []=>env0
 |(t,v)::r=>upd (envK r) t v
def xV8 (n0:Nat) (keep:List Nat) (Inv:List V->St->Nat->Prop) (m:Nat) (e:Env) (σ:St):Prop:=
 ∃vs s pick,Picks n0 pick σ s/\All2 (argS (ren pick σ.length)) vs (keep.map e)/\Inv vs s m
theorem zP6 (h:Sim c nt e σ a w L β) (hc:c.β0.length=c.σ0.length) {keep:List Nat} {Inv:List V->St->Nat->Prop} {m:Nat} (hk:xV8 c.σ0.length keep Inv m e σ):
  ∃vs s β',Inv vs s m/\vs.length=keep.length/\Sim c nt (envK (keep.zip vs)) s a w L β':=by
 obtain⟨vs,s,pick,hp,aa,hI⟩:=hk
 have hl:=aa.length
 simp at hl
 refine⟨vs,s,_,hI,hl,h.mem.pick hp hc,h.size,h.defs,fun t=> ?_⟩
 have hb:=hp.bak h.mem.len
 clear hI
 revert aa hl
 generalize keep=kl
 intro aa hl
 induction kl generalizing vs with
 |nil=>trivial
 |cons q kl ih=>cases vs with
  |nil=>grind
  |cons v vs=>
   simp only[D7,envK,upd]
   by_cases hq:t=q
   .subst hq
    rw[if_pos rfl]
    exact zx9 hb aa.1 (h.env t)
   .rw[if_neg hq]
    exact ih vs aa.2 (by grind)
end
def Fx.{v} {α:Sort v} (_:α):Type:=Unit
def fx.{v} {α:Sort v} {a:α}:Fx a:=()
abbrev KT:=Env->St->Prop
abbrev QT:=Exit->Env->St->Prop
def zt4 (P:Program) (c:Ctx) (nt:Nat) (code:Code) (Q:QT) (_:Fx code) (_:Fx Q) (e:Env) (σ:St):Prop:=zD0 P c nt code Q e σ
def wrun (P:Program) (c:Ctx) (nt:Nat) (ops l:List Oper) (K:KT) (_:Fx ops) (_:Fx l) (_:Fx K) (e:Env) (σ:St):Prop:=vrun P c nt ops l K e σ
def wop (P:Program) (c:Ctx) (nt:Nat) (d:Option Tmp) (op:Op) (K:KT) (_:Fx op) (_:Fx K) (e:Env) (σ:St):Prop:=vop P c nt d op K e σ
def wfin (nt:Nat) (d:Option Tmp) (r:R) (K:KT) (_:Fx K) (e:Env) (σ:St):Prop:=vfin nt d r K e σ
def wput (nt:Nat) (d:Option Tmp) (v:V) (K:KT) (_:Fx K) (e:Env) (σ:St):Prop:=vput nt d v K e σ
def zK0 (p q:Prop) (_:Fx q):Prop:=xi7 p q
def yw8 (x:V) (A B:Prop) (_:Fx A) (_:Fx B):Prop:=yQ1 x A B
def wgrd (x:V) (want:Bool) (A B:Prop) (_:Fx A) (_:Fx B):Prop:=vgrd x want A B
def wgdo (t:Option Tmp) (want:Bool) (e:Env) (A B:Prop) (_:Fx A) (_:Fx B):Prop:=match t with|some t=>vgrd (e t) want A B|none=>False
def wdst (ops:List Oper) (_:Fx ops) (j:Nat):Option Tmp:=gdst ops j
def yb2 (K:KT) (Q:QT) (_:Fx K) (_:Fx Q) (x:Exit) (e:Env) (σ:St):Prop:=xF9 K Q x e σ
def wblk (id:Nat) (Q:QT) (_:Fx Q) (x:Exit) (e:Env) (σ:St):Prop:=blkV id Q x e σ
def wVW (P:Program) (c:Ctx) (nt:Nat) (code:Code) (Q:QT) (_:Fx code) (_:Fx Q) (e:Env) (σ:St):Prop:=VW P c nt code Q e σ
def wVC (P:Program) (c:Ctx) (fv:V) (az:List V) (σ:St) (K:V->St->Prop) (_:Fx K):Prop:=VC P c fv az σ K
def xI2 (nt:Nat) (d:Option Tmp) (K:KT) (_:Fx K) (e:Env) (v:V) (σ:St):Prop:=vput nt d v K e σ
section
variable {P:Program} {c:Ctx} {nt:Nat} {e:Env} {σ:St} {K:KT} {Q:QT} {d:Option Tmp}
variable {x:Operand}{t:TypeId}{i:Nat}{A:Prop}{B:Prop}{op:BinOp}{b:Bool}{es:Option (List Pk)}{y:Operand}{l:List Operand}{want:Bool}{t':TypeId}{k:IntKind}{f:FuncId}{ops:List Oper}{ty:TypeId}{aft:Array Edge}{n:Int}{p:Prop}{ts:Array TypeId}{ek:Nat}
theorem zK {code:Code} (h:zt4 P c nt code Q fx fx e σ):zD0 P c nt code Q e σ:=h
@[go_sem] theorem wcode_skip:zt4 P c nt .skip Q fx fx e σ=Q .normal e σ:=id rfl
@[go_sem] theorem wcode_seq {x y:Code}:zt4 P c nt (.seq x y) Q fx fx e σ=zt4 P c nt x (yb2 (zt4 P c nt y Q fx fx) Q fx fx) fx fx e σ:=id rfl
@[go_sem] theorem wcode_cond {t f:Code}:zt4 P c nt (.cond x t f) Q fx fx e σ=yw8 (zD e x) (zt4 P c nt t Q fx fx e σ) (zt4 P c nt f Q fx fx e σ) fx fx:=id rfl
@[go_sem] theorem wcode_block {b:Code}:zt4 P c nt (.block i b) Q fx fx e σ=zt4 P c nt b (wblk i Q fx) fx fx e σ:=id rfl
@[go_sem] theorem wcode_exit:zt4 P c nt (.exit i) Q fx fx e σ=Q (.exit i) e σ:=id rfl
@[go_sem] theorem wcode_ret:zt4 P c nt .ret Q fx fx e σ=Q .ret e σ:=id rfl
@[go_sem] theorem wcode_region {l:List Oper}:zt4 P c nt (.region i l.toArray false) Q fx fx e σ=wrun P c nt l l (Q .normal) fx fx fx e σ:=id rfl
@[go_sem] theorem wcode_draw {ops:Array Oper}:zt4 P c nt (.region i ops true) Q fx fx e σ=wVW P c nt (.region i ops true) Q fx fx e σ:=id rfl
@[go_sem] theorem wcode_loop {b:Code}:zt4 P c nt (.loop b) Q fx fx e σ=wVW P c nt (.loop b) Q fx fx e σ:=id rfl
@[go_sem] theorem wthen_normal:yb2 K Q fx fx .normal e σ=K e σ:=id rfl
@[go_sem] theorem wthen_ret:yb2 K Q fx fx .ret e σ=Q .ret e σ:=id rfl
@[go_sem] theorem wthen_exit:yb2 K Q fx fx (.exit i) e σ=Q (.exit i) e σ:=id rfl
@[go_sem] theorem wblk_normal:wblk i Q fx .normal e σ=Q .normal e σ:=id rfl
@[go_sem] theorem wblk_ret:wblk i Q fx .ret e σ=Q .ret e σ:=id rfl
@[go_sem] theorem wblk_same:wblk i Q fx (.exit i) e σ=Q .normal e σ:=by show(if i=i then _ else _)=_;simp
@[go_sem] theorem wblk_exit {j:Nat}:wblk i Q fx (.exit j) e σ=if j=i then Q .normal e σ else Q (.exit j) e σ:=id rfl
theorem yW {op:Op} (h1:za5 P e σ op=evOp P e σ op) (h2:vop P c nt d op K e σ=vfin nt d (xR P d e σ op) K e σ):wop P c nt d op K fx fx e σ=wfin nt d (evOp P e σ op) K fx e σ:=by
 grind[wop,wfin,xR]
def wh (b:Bool) (x y:R):R:=if b=true then x else y
@[go_sem] theorem wh_t {x y:R}:wh true x y=x:=rfl
@[go_sem] theorem wh_f {x y:R}:wh false x y=y:=rfl
def yT8:V->Bool
 | .tup []=>true
 |_=>false
@[go_sem] theorem hinted_some {t:Nat}:ze3 e (some t)=yT8 (e (100000+t)):=by
 rfl
@[go_sem] theorem hinted_none:ze3 e none=false:=rfl
@[go_sem] theorem isMark_t:yT8 (.tup [])=true:=rfl
@[go_sem] theorem isMark_u:yT8 .u=false:=rfl
@[go_sem] theorem env0_u {t:Nat}:env0 t= .u:=rfl
@[go_sem] theorem wrun_nil:wrun P c nt ops [] K fx fx fx e σ=K e σ:=id rfl
@[go_sem] theorem wrun_cons {rest:List Oper} {op:Op} {pos:String}:wrun P c nt ops (⟨d,op,ty,pos,aft,none⟩::rest) K fx fx fx e σ=wop P c nt d op (wrun P c nt ops rest K fx fx fx) fx fx e σ:=id rfl
@[go_sem] theorem wrun_guard {rest:List Oper} {op:Op} {pos:String} {j:Nat}:wrun P c nt ops (⟨d,op,ty,pos,aft,some (j,want)⟩::rest) K fx fx fx e σ=
  wgdo (wdst ops fx j) want e (wop P c nt d op (wrun P c nt ops rest K fx fx fx) fx fx e σ) (wput nt d (.tup []) (wrun P c nt ops rest K fx fx fx) fx e σ) fx fx:=id rfl
@[go_sem] theorem wgdo_some {t:Tmp}:wgdo (some t) want e A B fx fx=wgrd (e t) want A B fx fx:=id rfl
@[go_sem] theorem wdst_zero {d:Option Tmp} {op:Op} {pos:String} {g:Option (Nat×Bool)} {l:List Oper}:wdst (⟨d,op,ty,pos,aft,g⟩::l) fx 0=d:=id rfl
@[go_sem] theorem wdst_succ {o:Oper} {l:List Oper} {n:Nat}:wdst (o::l) fx (n+1)=wdst l fx n:=by rfl
@[go_sem] theorem wgrd_tt:wgrd (.bool true) true A B fx fx=A:=by grind[wgrd,vgrd]
@[go_sem] theorem wgrd_ff:wgrd (.bool false) false A B fx fx=A:=by grind[wgrd,vgrd]
@[go_sem] theorem wgrd_tf:wgrd (.bool true) false A B fx fx=B:=by grind[wgrd,vgrd]
@[go_sem] theorem wgrd_ft:wgrd (.bool false) true A B fx fx=B:=by grind[wgrd,vgrd]
@[go_sem] theorem wgrd_no:wgrd (.tup []) want A B fx fx=B:=by rfl
@[go_sem] theorem wcond_t:yw8 (.bool true) A B fx fx=A:=by grind[yw8,yQ1]
@[go_sem] theorem wcond_f:yw8 (.bool false) A B fx fx=B:=by grind[yw8,yQ1]
theorem zR (ha:b=true->A) (hb:b=false->B):yw8 (.bool b) A B fx fx:=⟨ha,hb⟩
theorem xB (ha:b=want->A) (hb:b=(!want)->B):wgrd (.bool b) want A B fx fx:=⟨ha,fun h=>hb (by cases b<;>cases want<;>simp_all)⟩
theorem zI {q:Prop} (hp:p) (hq:q):zK0 p q fx:=⟨hp,hq⟩
@[go_sem] theorem wneed_t {q:Prop}:zK0 True q fx=q:=by grind[zK0,xi7]
@[go_sem] theorem wfin_ok {v:V}:wfin nt d (.ok v) K fx e σ=wput nt d v K fx e σ:=id rfl
@[go_sem] theorem wfin_need {v:V}:wfin nt d (.need p v) K fx e σ=zK0 p (wput nt d v K fx e σ) fx:=id rfl
@[go_sem] theorem wfin_st {v:V} {s:St}:wfin nt d (.st v s) K fx e σ=wput nt d v K fx e s:=id rfl
@[go_sem] theorem wfin_needst {v:V} {s:St}:wfin nt d (.needst p v s) K fx e σ=zK0 p (wput nt d v K fx e s) fx:=id rfl
@[go_sem] theorem wput_some {t:Nat} {v:V}:wput nt (some t) v K fx e σ=(t<nt/\K (upd e t v) σ):=id rfl
@[go_sem] theorem wput_none {v:V}:wput nt none v K fx e σ=K e σ:=id rfl
@[go_sem] theorem wputK_eq {v:V}:xI2 nt d K fx e v σ=wput nt d v K fx e σ:=id rfl
@[go_sem] theorem wop_move:wop P c nt d (.move x) K fx fx e σ=wput nt d (zD e x) K fx e σ:=(yW rfl rfl).trans rfl
@[go_sem] theorem wop_assign:wop P c nt d (.assign x) K fx fx e σ=wput nt d (zD e x) K fx e σ:=(yW rfl rfl).trans rfl
@[go_sem] theorem wop_pick {z:Operand}:wop P c nt d (.pick x y z) K fx fx e σ=wfin nt d (zH7 (zD e x) (zD e y) (zD e z)) K fx e σ:=(yW rfl rfl).trans rfl
@[go_sem] theorem wop_alloc:wop P c nt d (.alloc t) K fx fx e σ=wfin nt d (zl3 P t σ) K fx e σ:=(yW rfl rfl).trans rfl
@[go_sem] theorem wop_box:wop P c nt d (.box t x) K fx fx e σ=wfin nt d (zQ8 σ (zD e x)) K fx e σ:=(yW rfl rfl).trans rfl
@[go_sem] theorem wop_build {l:List (Nat×Operand)}:wop P c nt d (.build t l.toArray) K fx fx e σ=wfin nt d (zy3 (zb0 P t) (plcT P t) (l.map fun p=>(p.1,zD e p.2))) K fx e σ:=(yW rfl rfl).trans rfl
@[go_sem] theorem wop_buildSlice {n:Nat} {l:List (Nat×Operand)}:wop P c nt d (.buildSlice t n l.toArray) K fx fx e σ=wfin nt d (wh (ze3 e d) (za2 ((elT P t).map (·.1)) n σ (l.map fun p=>(p.1,zD e p.2))) (zb4 ((elT P t).map (·.1)) n (l.map fun p=>(p.1,zD e p.2)))) K fx e σ:=id rfl
@[go_sem] theorem wop_load:wop P c nt d (.load t x) K fx fx e σ=wfin nt d (zh9 P t σ (zD e x)) K fx e σ:=(yW rfl rfl).trans rfl
@[go_sem] theorem wop_store:wop P c nt d (.store t x y) K fx fx e σ=wfin nt d (zu1 P t σ (zD e x) (zD e y)) K fx e σ:=(yW rfl rfl).trans rfl
@[go_sem] theorem wop_nil:wop P c nt d (.nilCheck x) K fx fx e σ=wfin nt d (zZ4 (zD e x)) K fx e σ:=(yW rfl rfl).trans rfl
@[go_sem] theorem wop_bin:wop P c nt d (.binOp op t x y t') K fx fx e σ=wfin nt d (wh (zh5 y) (zu0 op (eqK P t) (zD e x)) (wh (zg4 y) (zq9 op (zi3 P t) (zD e x)) (zt0 op (eqK P t) (eqS P t) (zD e x) (zD e y)))) K fx e σ:=(yW rfl rfl).trans rfl
@[go_sem] theorem isNilOp_tmp {t:Nat}:zh5 (.tmp t)=false:=rfl
@[go_sem] theorem isNilOp_nil:zh5 (.const (.slice none 0 0))=true:=rfl
@[go_sem] theorem isNilOp_int:zh5 (.const (.int k n))=false:=rfl
@[go_sem] theorem isNilOp_bool:zh5 (.const (.bool b))=false:=rfl
@[go_sem] theorem isNilOp_str {b:ByteArray}:zh5 (.const (.string b))=false:=rfl
@[go_sem] theorem isNilOp_ptr {a:Option Addr}:zh5 (.const (.pointer a))=false:=rfl
@[go_sem] theorem isNilOp_func:zh5 (.func f)=false:=rfl
@[go_sem] theorem isNilOp_map {m:Option Nat}:zh5 (.const (.map m))=false:=rfl
@[go_sem] theorem isNilMap_tmp {t:Nat}:zg4 (.tmp t)=false:=rfl
@[go_sem] theorem isNilMap_nil:zg4 (.const (.map none))=true:=rfl
@[go_sem] theorem isNilMap_int:zg4 (.const (.int k n))=false:=rfl
@[go_sem] theorem isNilMap_bool:zg4 (.const (.bool b))=false:=rfl
@[go_sem] theorem isNilMap_str {b:ByteArray}:zg4 (.const (.string b))=false:=rfl
@[go_sem] theorem isNilMap_ptr {a:Option Addr}:zg4 (.const (.pointer a))=false:=rfl
@[go_sem] theorem isNilMap_func:zg4 (.func f)=false:=rfl
def xV3 (l:List (V×St)) (A:V->St->Prop) (_:Fx A):Prop:= ∀p∈l,A p.1 p.2
@[go_sem] theorem xH7 {l:List (V×St)}:wfin nt d (.any l) K fx e σ=xV3 l (fun v s=>wput nt d v K fx e s) fx:=id rfl
theorem xS2 {l:List (V×St)} {A:V->St->Prop} (h: ∀p∈l,A p.1 p.2):xV3 l A fx:=h
@[go_sem] theorem wop_makeMap {r:Option Operand}:wop P c nt d (.makeMap t r) K fx fx e σ=wfin nt d (zm7 σ (zi3 P t) (r.map (zD e))) K fx e σ:=(yW rfl rfl).trans rfl
@[go_sem] theorem wop_lookup {k:Operand} {ok:Bool}:wop P c nt d (.lookup t x k ok) K fx fx e σ=wfin nt d (xV (mapT P t) σ (zD e x) (zD e k) ok) K fx e σ:=(yW rfl rfl).trans rfl
@[go_sem] theorem wop_mapUpdate {k v:Operand}:wop P c nt d (.mapUpdate t x k v) K fx fx e σ=wfin nt d (xQ (mapT P t) σ (zD e x) (zD e k) (zD e v)) K fx e σ:=(yW rfl rfl).trans rfl
@[go_sem] theorem wop_range:wop P c nt d (.range t x) K fx fx e σ=wfin nt d (zy6 (zi3 P t) σ (zD e x)) K fx e σ:=(yW rfl rfl).trans rfl
@[go_sem] theorem wop_next:wop P c nt d (.next x false) K fx fx e σ=wfin nt d (wh (ze3 e d) (zi0 true σ (zD e x)) (zi0 false σ (zD e x))) K fx e σ:=id rfl
@[go_sem] theorem wop_delete {k:Operand}:wop P c nt d (.call ⟨.builtin .delete, #[x,k], #[t,t']⟩) K fx fx e σ=wfin nt d (zq8 (mapT P t) σ (zD e x) (zD e k)) K fx e σ:=(yW rfl rfl).trans rfl
attribute [go_sem] zJ4 zx1 zm7 xV xQ zy6 zi0 zq8 zq9 zo9 zj8 zC3 zY8 zI5
@[go_sem] theorem wop_un {op:UnOp}:wop P c nt d (.unOp op t x) K fx fx e σ=wfin nt d (evUn op (zD e x)) K fx e σ:=(yW rfl rfl).trans rfl
@[go_sem] theorem wop_conv:wop P c nt d (.convert t t' x) K fx fx e σ=wfin nt d (wh (ze3 e d) (zy4 (kdT P t) (kdT P t') σ (zD e x)) (zD8 (kdT P t) (kdT P t') (zD e x))) K fx e σ:=id rfl
@[go_sem] theorem wop_slice {hi:Option Operand}:wop P c nt d (.slice t x none hi none) K fx fx e σ=wfin nt d (zn3 (arrT P t) (lenT P t) ((elT P t).map (·.1)) (zD e x) none (hi.map (zD e))) K fx e σ:=(yW rfl rfl).trans rfl
@[go_sem] theorem wop_sliceH {lo hi:Operand}:wop P c nt d (.slice t x (some lo) (some hi) none) K fx fx e σ=wfin nt d (zn3 (arrT P t) (lenT P t) ((elT P t).map (·.1)) (zD e x) (some (zD e lo)) (some (zD e hi))) K fx e σ:=(yW rfl rfl).trans rfl
@[go_sem] theorem wop_sliceL {lo:Operand}:wop P c nt d (.slice t x (some lo) none none) K fx fx e σ=wfin nt d (wh (ze3 e d) (zr1 (lenT P t) ((elT P t).map (·.1)) σ (zD e x) (zD e lo)) (zn3 (arrT P t) (lenT P t) ((elT P t).map (·.1)) (zD e x) (some (zD e lo)) none)) K fx e σ:=id rfl
@[go_sem] theorem wop_fieldAddr {f:Nat}:wop P c nt d (.fieldAddr t x f) K fx fx e σ=wfin nt d (zf4 P t (zD e x) f) K fx e σ:=(yW rfl rfl).trans rfl
@[go_sem] theorem wop_field {f:Nat}:wop P c nt d (.field t x f) K fx fx e σ=wfin nt d (zy5 (fldT P t f) (zD e x)) K fx e σ:=(yW rfl rfl).trans rfl
@[go_sem] theorem wop_idxAddr {i:Operand}:wop P c nt d (.indexAddr t x i) K fx fx e σ=wfin nt d (zj0 (slcT P t) (arrT P t) (zD e x) (zD e i)) K fx e σ:=(yW rfl rfl).trans rfl
@[go_sem] theorem wop_idx {i:Operand}:wop P c nt d (.index t x i) K fx fx e σ=wfin nt d (zQ9 (zD e x) (zD e i) (strT P t) (arrT P t)) K fx e σ:=(yW rfl rfl).trans rfl
@[go_sem] theorem wop_extract:wop P c nt d (.extract x i) K fx fx e σ=wfin nt d (zm6 (zD e x) i) K fx e σ:=(yW rfl rfl).trans rfl
@[go_sem] theorem wop_func {fn:Fn} {m:List Operand}:wop P c nt d (.makeFunc fn l.toArray m.toArray) K fx fx e σ=wfin nt d (zH6 fn l.length (m.map (zD e))) K fx e σ:=(yW rfl rfl).trans rfl
@[go_sem] theorem wop_make {l m:Operand}:wop P c nt d (.makeSlice t l m) K fx fx e σ=wfin nt d (wh (ze3 e d) (zt9 (elT P t) (zelT P t) σ (zD e l) (zD e m)) (zE0 (elT P t) (zelT P t) σ (zD e l) (zD e m))) K fx e σ:=id rfl
@[go_sem] theorem wop_len:wop P c nt d (.call ⟨.builtin .len, #[x], #[t]⟩) K fx fx e σ=wfin nt d (zZ3 (lenT P t) (zD e x)) K fx e σ:=(yW rfl rfl).trans rfl
@[go_sem] theorem wop_clear:wop P c nt d (.call ⟨.builtin .clear, #[x], #[t]⟩) K fx fx e σ=wfin nt d (zt8 ((elT P t).map (·.1)) (zelT P t) σ (zD e x)) K fx e σ:=(yW rfl rfl).trans rfl
@[go_sem] theorem wop_append:wop P c nt d (.call ⟨.builtin .append, #[x,y], #[t,t']⟩) K fx fx e σ=wfin nt d (wh (ze3 e d) (ze1 (elT P t) (lenT P t') σ (zD e x) (zD e y)) (zh8 (elT P t) (lenT P t') σ (zD e x) (zD e y))) K fx e σ:=id rfl
@[go_sem] theorem wop_min:wop P c nt d (.call ⟨.builtin .min,l.toArray,ts⟩) K fx fx e σ=wfin nt d (zB0 false (l.map (zD e))) K fx e σ:=(yW rfl rfl).trans rfl
@[go_sem] theorem wop_max:wop P c nt d (.call ⟨.builtin .max,l.toArray,ts⟩) K fx fx e σ=wfin nt d (zB0 true (l.map (zD e))) K fx e σ:=(yW rfl rfl).trans rfl
@[go_sem] theorem wop_call {f:Operand}:wop P c nt d (.call ⟨.value f,l.toArray,ts⟩) K fx fx e σ=wVC P c (zD e f) (l.map (zD e)) σ (xI2 nt d K fx e) fx:=id rfl
@[go_sem] theorem evalV_tmp {t:Nat}:zD e (.tmp t)=e t:=rfl
@[go_sem] theorem evalV_const {v:Value}:zD e (.const v)=zc5 v:=rfl
@[go_sem] theorem evalV_glob {g:Nat}:zD e (.global g)=xT9 g:=rfl
@[go_sem] theorem evalV_func:zD e (.func f)= .fn f []:=rfl
@[go_sem] theorem upd_get {t':Nat} {v:V} {t:Nat}:upd e t' v t=if t=t' then v else e t:=rfl
@[go_sem] theorem ofVal_bool:zc5 (.bool b)= .bool b:=rfl
@[go_sem] theorem ofVal_int:zc5 (.int k n)= .int k n:=rfl
@[go_sem] theorem ofVal_str {s:ByteArray}:zc5 (.string s)= .str s.data.toList:=rfl
@[go_sem] theorem ofVal_nilp:zc5 (.pointer none)= .nilp:=rfl
@[go_sem] theorem ofVal_nils:zc5 (.slice none 0 0)= .sl .full []:=rfl
attribute [go_sem] zr1 zu0 yL7 lenV zH7 zZ4 evUn zD8 zy4 zB0 zZ3 zQ8 zl3 zm6 zy5 zf4 zh9 zl4 zu1 za6 xE zQ9 zj0 zn3 zr0 bnd zh8 ze1 zF7 zo1 xU7 zt8 zb4 za2 zt9 zn4 zy3 yw5 zE0 zH6 isK zC2 dem zH0 zN8 envA envK
@[go_sem] theorem evBin_int {x y:Int}:zt0 op ek es (.int k x) (.int k y)=zO5 op k x y:=by simp[zt0]
@[go_sem] theorem evBin_str {x y:List UInt8}:zt0 op ek es (.str x) (.str y)=zP8 op x y:=rfl
@[go_sem] theorem evBin_bool {x y:Bool}:zt0 op 1 es (.bool x) (.bool y)=(match op with| .eql=> .ok (.bool (x==y))| .neq=> .ok (.bool (!(x==y)))|_=> .fail):=rfl
@[go_sem] theorem evBin_ptr {o:Nat}:zt0 op 2 es (.ptr i o) .nilp=(match op with| .eql=> .ok (.bool false)| .neq=> .ok (.bool true)|_=> .fail):=rfl
@[go_sem] theorem evBin_nil:zt0 op 2 es .nilp .nilp=(match op with| .eql=> .ok (.bool true)| .neq=> .ok (.bool false)|_=> .fail):=rfl
@[go_sem] theorem evBin_agg {ks:List Pk} {az bs:List V}:zt0 op ek (some ks) (.agg az) (.agg bs)=(match eqVs ks az bs with|some r=>(match op with| .eql=> .ok (.bool r)| .neq=> .ok (.bool (!r))|_=> .fail)|none=> .fail):=rfl
attribute [go_sem] zO5 zP8 eqVs eqPk putCells
end
def noK:V->Bool
 | .ptr _ _| .sl (.app _) _| .agg _| .tup _| .fn _ _| .lsv _ _ _ _ _| .lsp _ _ _ _ _| .bsv _ _ _ _| .mp _| .ifc _ _=>false
 |_=>true
def noC:V->Bool
 | .fn _ caps=>caps.all noK
 | .ifc _ vs=>vs.all noK
 |v=>noK v
def noA:V->Bool
 | .agg cs=>cs.all noC
 |v=>noC v
def noS:V->Bool
 | .tup vs=>vs.all noA
 |v=>noA v
def ltK (n:Nat):V->Bool
 | .ptr id _=>decide (id<n)
 | .sl (.app id) _=>decide (id<n)
 | .lsv id _ _ _ _=>decide (id<n)
 | .lsp id _ _ _ _=>decide (id<n)
 | .bsv id _ _ _=>decide (id<n)
 | .mp id=>decide (id<n)
 | .agg _| .tup _| .fn _ _| .ifc _ _=>false
 |_=>true
def ltC (n:Nat):V->Bool
 | .fn _ caps=>caps.all (ltK n)
 | .ifc _ vs=>vs.all (ltK n)
 |v=>ltK n v
def ltA (n:Nat):V->Bool
 | .agg cs=>cs.all (ltC n)
 |v=>ltC n v
def ltS (n:Nat):V->Bool
 | .tup vs=>vs.all (ltA n)
 |v=>ltA n v
def ltOb (n:Nat):Ob->Bool
 | .box cells=>cells.all (ltC n)
 | .lst rows _=>rows.all fun r=>r.all (ltC n)
 | .mp kvs _ _=>kvs.all (ltA n)
 | .it m _ _ _=>(match m with|some id=>decide (id<n)|none=>true)
 |_=>true
theorem wD {α:Type} {f:α->α} {p:α->Bool} (h: ∀a,p a=true->f a=a): ∀{l:List α},l.all p=true->l.map f=l
 | [],_=>rfl
 |a::l,q=>by
  simp only[Ac,A1]at q
  rw[Ai,h a q.1,wD h q.2]
section
variable {ρ:Nat->Nat}
theorem xg6 {v:V} (h:noK v=true):renK ρ v=v:=by
 cases v with
 |sl g rows=>cases g<;>first|rfl|simp[noK]at h
 |_=>first|rfl|simp[noK]at h
theorem zF3 {v:V} (h:noC v=true):renC ρ v=v:=by
 cases v with
 |fn f caps=>simp only[renC];rw[wD (fun _=>xg6) h]
 |ifc t v=>simp only[renC];rw[wD (fun _=>xg6) h]
 |sl g rows=>cases g<;>first|rfl|simp[noC,noK]at h
 |_=>first|rfl|simp[noC,noK]at h
theorem yB8 {v:V} (h:noA v=true):renA ρ v=v:=by
 cases v with
 |agg cs=>simp only[renA];rw[wD (fun _=>zF3) h]
 |fn f caps=>exact zF3 (v:= .fn f caps) h
 |ifc t v=>exact zF3 (v:= .ifc t v) h
 |sl g rows=>cases g<;>first|rfl|simp[noA,noC,noK]at h
 |_=>first|rfl|simp[noA,noC,noK]at h
theorem zF4 {v:V} (h:noS v=true):renS ρ v=v:=by
 cases v with
 |tup vs=>simp only[renS];rw[wD (fun _=>yB8) h]
 |agg cs=>exact yB8 (v:= .agg cs) h
 |fn f caps=>exact zF3 (v:= .fn f caps) h
 |ifc t v=>exact zF3 (v:= .ifc t v) h
 |sl g rows=>cases g<;>first|rfl|simp[noS,noA,noC,noK]at h
 |_=>first|rfl|simp[noS,noA,noC,noK]at h
variable {n:Nat} (hρ: ∀i,i<n->ρ i=i)
include hρ
theorem zz4 {v:V} (h:ltK n v=true):renK ρ v=v:=by
 cases v with
 |sl g rows=>cases g with
  |app id=>simp_all[ltK,renK]
  |_=>rfl
 |ptr id off=>simp_all[ltK,renK]
 |lsv id s n lo m=>simp_all[ltK,renK]
 |lsp id s n k j=>simp_all[ltK,renK]
 |bsv id s off n=>simp_all[ltK,renK]
 |mp id=>simp_all[ltK,renK]
 |_=>first|rfl|simp[ltK]at h
theorem zc4 {v:V} (h:ltC n v=true):renC ρ v=v:=by
 cases v with
 |fn f caps=>simp only[renC];rw[wD (by grind[zz4]) h]
 |ifc t v=>simp only[renC];rw[wD (by grind[zz4]) h]
 |sl g rows=>have:=zz4 hρ (v:= .sl g rows) h;simpa
 |ptr id off=>exact zz4 hρ (v:= .ptr id off) h
 |lsv id s' n' lo m=>exact zz4 hρ (v:= .lsv id s' n' lo m) h
 |lsp id s' n' k j=>exact zz4 hρ (v:= .lsp id s' n' k j) h
 |bsv id s' off n'=>exact zz4 hρ (v:= .bsv id s' off n') h
 |mp id=>exact zz4 hρ (v:= .mp id) h
 |_=>first|rfl|simp[ltC,ltK]at h
theorem yd3 {v:V} (h:ltA n v=true):renA ρ v=v:=by
 cases v with
 |agg cs=>simp only[renA];rw[wD (by grind[zc4]) h]
 |fn f caps=>exact zc4 hρ (v:= .fn f caps) h
 |ifc t v=>exact zc4 hρ (v:= .ifc t v) h
 |sl g rows=>have:=zc4 hρ (v:= .sl g rows) h;simpa
 |ptr id off=>exact zc4 hρ (v:= .ptr id off) h
 |lsv id s' n' lo m=>exact zc4 hρ (v:= .lsv id s' n' lo m) h
 |lsp id s' n' k j=>exact zc4 hρ (v:= .lsp id s' n' k j) h
 |bsv id s' off n'=>exact zc4 hρ (v:= .bsv id s' off n') h
 |mp id=>exact zc4 hρ (v:= .mp id) h
 |_=>first|rfl|simp[ltA,ltC,ltK]at h
theorem yB9 {v:V} (h:ltS n v=true):renS ρ v=v:=by
 cases v with
 |tup vs=>simp only[renS];rw[wD (by grind[yd3]) h]
 |agg cs=>exact yd3 hρ (v:= .agg cs) h
 |fn f caps=>exact zc4 hρ (v:= .fn f caps) h
 |ifc t v=>exact zc4 hρ (v:= .ifc t v) h
 |sl g rows=>have:=yd3 hρ (v:= .sl g rows) h;simpa
 |ptr id off=>exact zc4 hρ (v:= .ptr id off) h
 |lsv id s' n' lo m=>exact zc4 hρ (v:= .lsv id s' n' lo m) h
 |lsp id s' n' k j=>exact zc4 hρ (v:= .lsp id s' n' k j) h
 |bsv id s' off n'=>exact zc4 hρ (v:= .bsv id s' off n') h
 |mp id=>exact zc4 hρ (v:= .mp id) h
 |_=>first|rfl|simp[ltS,ltA,ltC,ltK]at h
theorem wO {o:Ob} (h:ltOb n o=true):yS ρ o=o:=by
 cases o with
 |box cells=>simp only[yS];rw[wD (by grind[zc4]) h]
 |lst rows s=>simp only[yS];rw[wD (by grind[wD,zc4]) h]
 |mp kvs borns clk=>simp only[yS];rw[wD (by grind[yd3]) h]
 |it m since seen last=>
  cases m with
  |none=>rfl
  |some id=>simp_all[ltOb,yS]
 |_=>rfl
end
theorem ze8 {n N i:Nat} (h:i<n):ren (List.range n) N i=i:=by
 grind[wT]
theorem yu5 {n0:Nat} {s loc:St} (hok:s.all (ltOb s.length)=true) (hn:n0<=s.length):Picks n0 (List.range s.length) (s++loc) s:=by
 refine⟨sM,Br,fun i j o hi ho=> ?_,fun i hi=> ?_⟩
 .obtain⟨hl,hj⟩:=A6.1 hi
  simp at hj hl
  subst hj
  have:ltOb s.length o=true:=by
   grind
  grind[wO,ze8]
 grind
theorem zC {ρ:Nat->Nat} {v:V} (h:noS v=true):argS ρ v v:= .inl (zF4 h).symm
theorem zL {ρ:Nat->Nat} {g:Tag} {rows:List (List V)}:argS ρ (.sl .ro rows) (.sl g rows):= .inr sM
theorem zp8 {n N:Nat} {v:V} (h:ltS n v=true):argS (ren (List.range n) N) v v:= .inl (by grind[yB9,ze8])
theorem zY {ρ:Nat->Nat}: ∀{l:List V},l.all noS=true->All2 (argS ρ) l l
 | [],_=>trivial
 |v::l,h=>by
  simp only[Ac,A1]at h
  exact⟨zC h.1,zY h.2⟩
section
variable {P:Program} {c:Ctx} {nt:Nat} {e:Env} {σ:St} {K:KT} {Q:QT} {d:Option Tmp} {R:V->St->Prop} {rs:List ResultVar} {n0:Nat}
def wret (v:Option V) (n0:Nat) (R:V->St->Prop) (σ:St):Prop:= ∃x,v=some x/\VRet n0 R x σ
@[go_sem] theorem retQ_ret:retQ P rs n0 R .ret e σ=wret (retV P rs e σ) n0 R σ:=id rfl
@[go_sem] theorem retQ_normal:retQ P rs n0 R .normal e σ=wret (retV P rs e σ) n0 R σ:=id rfl
attribute [go_sem] retV yu8 zP4
theorem xP {v r:V} (hr:argS (ren [] σ.length) r v) (hR:R r []):wret (some v) 0 R σ:=
 ⟨v,rfl,v,σ,[],[],r,.refl _ _,⟨rfl,Cj,sM,om⟩,hr,hR⟩
theorem zp7 (k:Nat) {v r:V} (hk:(σ.take k).length=k) (hok:(σ.take k).all (ltOb k)=true) (hn:n0<=k) (hr:argS (ren (List.range k) σ.length) r v) (hR:R r (σ.take k)):wret (some v) n0 R σ:=by
 have h1:σ.take k++σ.drop k=σ:=sM
 have hp:=yu5 (n0:=n0) (s:=σ.take k) (loc:=σ.drop k) (by rw[hk];exact hok) (by rw[hk];exact hn)
 rw[h1,hk]at hp
 exact⟨v,rfl,v,σ,_,σ.take k,r,.refl _ _,hp,hr,hR⟩
theorem yR0 (id s:Nat) (rows:List (List V)) {v:V} (hσ:σ[id]? =some (.lst rows s)) (hp:wE rows=true) (h:wret (some (frzS id rows v)) n0 R (zm9 id rows σ)):wret (some v) n0 R σ:=by
 obtain⟨x,hx,v1,σ1,pick,σ',r,hf,hr⟩:=h
 cases hx
 exact⟨v,rfl,v1,σ1,pick,σ',r,.step id s rows hσ hp hf,hr⟩
abbrev Pure (P:Program) (f:FuncId) (args:List V) (v:V):Prop:=VCalls P f args [] fun r s=>r=v/\s= []
theorem zM {f:FuncId} {caps args args':List V} {v:V} {KV:V->St->Prop} (hc:Pure P f args' v) (hb:wL P f=true) (aa:All2 (argS (ren [] σ.length)) args' (args++caps)) (hn:noS v=true) (hk:KV v σ):
  wVC P c (.fn f caps) args σ KV fx:=by
 refine VC.of hc hb [] Cj rfl sM aa ?_
 rintro r σ' ⟨rfl,rfl⟩ _
 grind[zF4,xX,mset]
theorem xR8 {f:FuncId} {caps args args':List V} {o:Ob} {i:Nat} {KV:V->St->Prop} {R:V->St->Prop} (hc:VCalls P f args' [o] R) (hb:wL P f=true) (ho:σ[i]? =some o) (ab:ltOb 0 o=true)
  (aa:All2 (argS (ren [i] σ.length)) args' (args++caps)) (hk: ∀r σ',R r σ'->1<=σ'.length->KV (renS (ren [i] σ.length) r) (xX [i] σ σ')):wVC P c (.fn f caps) args σ KV fx:=by
 refine VC.of hc hb [i] sM rfl (fun k j o' h1 h2=> ?_) aa hk
 cases k with
 |zero=>
  simp at h1 h2
  subst h1;subst h2
  rw[wO (n:=0) om ab];exact ho
 |succ k=>grind
end
def ze6:Op->Nat
 | .move _| .assign _| .pick .. | .build .. | .buildSlice .. | .nilCheck _| .binOp .. | .unOp .. | .convert .. | .slice .. | .fieldAddr .. | .field .. | .indexAddr .. | .index .. | .extract .. | .makeFunc .. =>0
 | .call ⟨.builtin .len,_,_⟩| .call ⟨.builtin .min,_,_⟩| .call ⟨.builtin .max,_,_⟩=>0
 | .load .. =>1
 | .alloc .. | .box .. =>3
 |_=>4
def zT (q:List (Nat×Nat)) (i:Nat) (o:Oper):Nat:=match q.find? (·.1==i)with|some p=>min p.2 4|none=>ze6 o.op
structure Kp where
 x:Nat
 n:Nat
 ex:List Nat
 ob:Option (Nat×(Ob->R))
abbrev Kp.pre (n:Nat):Kp:=⟨0,n,[],none⟩
def Kp.has (k:Kp) (id:Nat):Bool:=decide (k.x<=id)&&decide (id<k.n)&& !k.ex.contains id
@[go_sem] theorem Kp.has_pre {n id:Nat}:(Kp.mk 0 n [] none).has id=decide (id<n):=by simp[Kp.has]
@[go_sem] theorem Kp.has_but {x n id:Nat}:(Kp.mk (x+1) n [] none).has id=(decide (x+1<=id)&&decide (id<n)):=by simp[Kp.has]
def Kp.of (k:Kp) (σ:St):St×Option R:=(((σ.take k.n).mapIdx fun i o=>if k.ex.contains i then .dead else o).drop k.x,k.ob.bind fun p=>((σ.take k.n)[p.1]?).map p.2)
theorem Kp.get {k:Kp} {id:Nat} {σ S:St} (h:k.has id=true) (ht:k.of σ=k.of S):σ[id]? =S[id]? :=by
 simp only[Kp.has,A1,decide_eq_true_eq,Ck]at h
 obtain⟨⟨h1,h2⟩,h3⟩:=h
 have e: ∀τ:St,(k.of τ).1[id - k.x]? =τ[id]? :=(by simp_all[Kp.of])
 grind
theorem Kp.of_append {k:Kp} {σ ext:St} (h:k.n<=σ.length):k.of (σ++ext)=k.of σ:=by
 grind[Kp.of]
theorem Kp.of_set {k:Kp} {σ:St} {id:Nat} {o:Ob} (h:(id<k.x/\k.ob=none)∨k.n<=id):k.of (σ.set id o)=k.of σ:=by
 unfold Kp.of
 congr 1
 .refine Bn fun i=> ?_
  grind
 grind
theorem Kp.of_ex {k:Kp} {σ:St} {id:Nat} {o o':Ob} (hx:k.ex.contains id=true) (ho:σ[id]? =some o) (hk: ∀p,k.ob=some p->p.1=id->p.2 o'=p.2 o):k.of (σ.set id o')=k.of σ:=by
 unfold Kp.of
 congr 1
 .congr 1
  refine Bn fun i=> ?_
  grind
 .cases aa:k.ob<;>grind
def zZ8 (a b:Nat):Bool:=(a==4&&b !=0)||(b==4&&a !=0)||(a==3&&(b==3||b==2))||(b==3&&a==2)
def zw0 (ops:List Oper) (o:Oper):List Tmp:=(o.op.operands.toList.filterMap fun| .tmp t=>some t|_=>none)++(match o.guard with|some (j,_)=>(gdst ops j).toList|none=> [])++(o.dst.map (100000+ ·)).toList
def hok (P:Program) (d:Option Tmp) (e:Env) (op:Op):Prop:=ze3 e d=false∨ ∀e σ,za5 P e σ op=evOp P e σ op
theorem zp2 {P:Program} {d:Option Tmp} {e:Env} {op:Op} (h:hok P d e op) (σ:St):xR P d e σ op=evOp P e σ op:=by
 unfold xR
 rcases h with h|h
 all_goals grind
theorem yz5 {d:Option Tmp} {e e':Env} (h: ∀t,d=some t->e (100000+t)=e' (100000+t)):ze3 e d=ze3 e' d:=by
 cases d with
 |none=>rfl
 |some t=>simp only[ze3,h t rfl]
def befs:List Oper->List (List Nat)->List (List Nat)
 | [],acc=>acc
 |o::os,acc=>befs os (acc++ [((o.after.toList.filter (Region.binds .any)).flatMap fun e=>e.on::acc.getD e.on []).eraseDups])
def zM8 (ops:List Oper) (q:List (Nat×Nat)) (i j:Nat) (a b:Oper):Bool:=
 zZ8 (zT q i a) (zT q j b)||
 (match a.dst with|some d=>(zw0 ops b).contains d||b.dst==some d|none=>false)||(match b.dst with|some d=>(zw0 ops a).contains d|none=>false)
def zA3 (ops:List Oper) (q:List (Nat×Nat)):Bool:=
 let b:=befs ops []
 (List.range ops.length).all fun j=>(List.range j).all fun i=>
  match ops[i]?,ops[j]? with
  |some x,some y=> !zM8 ops q i j x y||(b.getD j []).contains i
  |_,_=>true
def zc8 (ops:List Oper):Bool:=(List.range ops.length).all fun j=>match ops[j]? with|some o=>o.after.all fun e=> !Region.binds .any e||decide (e.on<j)|none=>true
section
variable {P:Program} {c:Ctx} {nt:Nat} {n0:Kp}
variable {σ:St}{e:Env}{e':Env}
theorem xa3 (ops:List Oper) (D:Nat->Prop) (hD: ∀(j:Nat) o,ops[j]? =some o->D j-> ∀e∈o.after.toList,Region.binds .any e=true->D e.on):
  ∀(rest pre:List Oper) (acc:List (List Nat)),ops=pre++rest->acc.length=pre.length->(∀j l,acc[j]? =some l->D j-> ∀i∈l,D i)->
   ∀j l,(befs rest acc)[j]? =some l->D j-> ∀i∈l,D i
 | [],_,acc,_,_,h=>h
 |o::rest,pre,acc,aa,hlen,h=>by
  rw[befs]
  refine xa3 ops D hD rest (pre++ [o]) _ (by grind) (by grind) fun j l hj ab i hi=> ?_
  rcases yZ hj with ⟨_,hj⟩|⟨hj,hl⟩
  .grind
  .have ad:j=pre.length:=om
   rw[hl]at hi
   have ae:=List.mem_eraseDups.1 hi
   grind
def imm (n0:Kp):V->Bool
 | .ptr id _=>n0.has id
 | .lsp id _ _ _ _=>n0.has id
 |_=>true
def KeepN (n0:Kp) (σ σ':St):Prop:=(∃ext,σ'=σ++ext)∨n0.of σ'=n0.of σ
theorem KeepN.refl {n0:Kp}:KeepN n0 σ σ:= .inr rfl
def Fact (P:Program) (c:Ctx) (nt:Nat) (n0:Kp) (ops:List Oper) (q:List (Nat×Nat)) (i:Nat) (o:Oper) (e:Env) (σ:St) (v:V) (σ':St):Prop:=
 (∀t,o.dst=some t->t<nt)/\(zT q i o<3->σ'=σ)/\(zT q i o=3->KeepN n0 σ σ')/\σ.length<=σ'.length/\
 ∃g:Bool,(match o.guard with|none=>g=true|some (j,want)=> ∃t,gdst ops j=some t/\((∃b,e t= .bool b/\g=(b==want))∨(e t= .tup []/\g=false)))/\
  (if g then(match o.op with
   | .call ⟨.value f,args,_⟩=>(if zT q i o=0 then∀s,VC P c (zD e f) (args.toList.map (zD e)) s (fun r s'=>r=v/\s'=s)else if zT q i o=1 then∀s,n0.of s=n0.of σ->VC P c (zD e f) (args.toList.map (zD e)) s (fun r s'=>r=v/\s'=s)else VC P c (zD e f) (args.toList.map (zD e)) σ (fun r s=>r=v/\s=σ'))
   |op=>(zT q i o<3->hok P o.dst e op)/\(zT q i o=0->ze6 op=0)/\(zT q i o=1->(∃t x,op= .load t x/\imm n0 (zD e x)=true)∨(∀t x,op≠ .load t x)/\ ∀s,n0.of s=n0.of σ->evOp P e s op=evOp P e σ op)/\
    ((xR P o.dst e σ op= .ok v/\σ'=σ)∨(∃p,xR P o.dst e σ op= .need p v/\p/\σ'=σ)∨(3<=zT q i o/\(xR P o.dst e σ op= .st v σ'∨ ∃p,xR P o.dst e σ op= .needst p v σ'/\p))))
   else v= .tup []/\σ'=σ)
def updO (e:Env) (d:Option Tmp) (v:V):Env:=match d with|some t=>upd e t v|none=>e
def zv1 (P:Program) (c:Ctx) (nt:Nat) (n0:Kp) (ops:List Oper) (q:List (Nat×Nat)):Nat->List Oper->Env->St->List (V×St)->Prop
 |_,[],_,_,[]=>True
 |i,o::os,e,σ,(v,σ')::tr=>Fact P c nt n0 ops q i o e σ v σ'/\zv1 P c nt n0 ops q (i+1) os (updO e o.dst v) σ' tr
 |_,_,_,_,_=>False
def fE (D:Nat->Bool):Nat->List Oper->List (V×St)->Env->Env
 |i,o::os,(v,_)::tr,e=>fE D (i+1) os tr (if D i then updO e o.dst v else e)
 |_,_,_,e=>e
def fS (D:Nat->Bool) (q:List (Nat×Nat)):Nat->List Oper->List (V×St)->St->St
 |i,o::os,(_,σ')::tr,s=>fS D q (i+1) os tr (if D i&&decide (3<=zT q i o)then σ' else s)
 |_,_,_,s=>s
theorem zn1 (e:Env) (d:Option Tmp) (v:V) (t:Tmp) (h:d=some t):updO e d v t=v:=by simp_all[updO,upd]
theorem zi4 (e:Env) (d:Option Tmp) (v:V) (t:Tmp) (h:d≠some t):updO e d v t=e t:=by
 cases d with
 |none=>rfl
 |some d=>simp only[updO,upd];grind
theorem ze2 (D D':Nat->Bool) (t:Tmp): ∀(os:List Oper) (tr:List (V×St)) (i:Nat) (e e':Env),e t=e' t->(∀(k:Nat) o,os[k]? =some o->o.dst=some t->D (i+k)=D' (i+k))->fE D i os tr e t=fE D' i os tr e' t
 | [],_,_,_,_,h,_=>by simpa
 |o::os,[],_,_,_,h,_=>by simpa
 |o::os,(v,s)::tr,i,e,e',h,hD=>by
  rw[fE,fE]
  refine ze2 D D' t os tr (i+1) _ _ ?_ (fun k o' hk hd=>by have:=hD (k+1) o' (sU hk) hd;grind)
  by_cases hd:o.dst=some t
  .have:=hD 0 o rfl hd
   rw[D9]at this
   grind[zn1]
  grind[zi4]
theorem yc4 (D:Nat->Bool) (t:Tmp) (os:List Oper) (tr:List (V×St)) (i:Nat) (e:Env) (h: ∀(k:Nat) o,os[k]? =some o->o.dst=some t->D (i+k)=false):fE D i os tr e t=e t:=by
 have h1:=ze2 D (fun _=>false) t os tr i e e rfl om
 rw[h1]
 clear h h1
 induction os generalizing tr i with
 |nil=>rfl
 |cons o os ih=>cases tr<;>simp_all[fE]
theorem zE1 (D:Nat->Bool) (t:Tmp): ∀(os:List Oper) (tr:List (V×St)) (i k:Nat) (e:Env) (o:Oper) (v:V) (s:St),os[k]? =some o->tr[k]? =some (v,s)->o.dst=some t->D (i+k)=true->(∀(k':Nat) o',k<k'->os[k']? =some o'->o'.dst=some t->D (i+k')=false)->fE D i os tr e t=v
 | [],_,_,_,_,_,_,_,h,_,_,_,_=>by grind
 |_::_,[],_,_,_,_,_,_,_,h,_,_,_=>by grind
 |o1::os,(v1,s1)::tr,i,0,e,o,v,s,h1,h2,hd,hD,hl=>by
  simp at h1 h2
  obtain⟨rfl,rfl⟩:=h2
  subst h1
  rw[fE,if_pos om,yc4]
  .grind[zn1]
  .intro k o' hk aa
   have:=hl (k+1) o' om (sU hk) aa
   grind
 |o1::os,(v1,s1)::tr,i,k+1,e,o,v,s,h1,h2,hd,hD,hl=>by
  rw[fE]
  refine zE1 D t os tr (i+1) k _ o v s (sU h1) (sU h2) hd (by rwa [show i+1+k=i+(k+1) by omega]) fun k' o' ad ab aa=> ?_
  have:=hl (k'+1) o' om (sU ab) aa
  rwa [show i+1+k'=i+(k'+1) by omega]
theorem zi2 (D D':Nat->Bool) (q:List (Nat×Nat)): ∀(os:List Oper) (tr:List (V×St)) (i:Nat) (s:St),(∀(k:Nat) o,os[k]? =some o->3<=zT q (i+k) o->D (i+k)=D' (i+k))->fS D q i os tr s=fS D' q i os tr s
 | [],_,_,_,_=>by rfl
 |o::os,[],_,_,_=>by rfl
 |o::os,(v,σ')::tr,i,s,h=>by
  rw[fS,fS]
  have e1:(if(D i&&decide (3<=zT q i o))=true then σ' else s)=(if(D' i&&decide (3<=zT q i o))=true then σ' else s):=by
   by_cases hk:3<=zT q i o
   .have:=h 0 o rfl om
    grind
   grind
  rw[e1]
  exact zi2 D D' q os tr (i+1) _ (fun k o' hk hd=>by have:=h (k+1) o' (by grind) (by grind);grind)
theorem zy7 (D:Nat->Bool) (q:List (Nat×Nat)) (os:List Oper) (tr:List (V×St)) (i:Nat) (s:St) (h: ∀(k:Nat) o,os[k]? =some o->3<=zT q (i+k) o->D (i+k)=false):fS D q i os tr s=s:=by
 have h1:=zi2 D (fun _=>false) q os tr i s h
 rw[h1]
 clear h h1
 induction os generalizing tr i with
 |nil=>rfl
 |cons o os ih=>cases tr<;>simp_all[fS]
theorem zL0 (D:Nat->Bool) (q:List (Nat×Nat)): ∀(os:List Oper) (tr:List (V×St)) (i k:Nat) (s:St) (o:Oper) (v:V) (σ':St),os[k]? =some o->tr[k]? =some (v,σ')->3<=zT q (i+k) o->D (i+k)=true->(∀(k':Nat) o',k<k'->os[k']? =some o'->3<=zT q (i+k') o'->D (i+k')=false)->fS D q i os tr s=σ'
 | [],_,_,_,_,_,_,_,h,_,_,_,_=>by grind
 |_::_,[],_,_,_,_,_,_,_,h,_,_,_=>by grind
 |o1::os,(v1,s1)::tr,i,0,s,o,v,σ',h1,h2,hd,hD,hl=>by
  simp at h1 h2
  obtain⟨rfl,rfl⟩:=h2
  subst h1
  rw[D9]at hd hD
  rw[fS,if_pos (by grind),zy7]
  intro k o' hk aa
  have:=hl (k+1) o' om (by grind) (by grind)
  grind
 |o1::os,(v1,s1)::tr,i,k+1,s,o,v,σ',h1,h2,hd,hD,hl=>by
  rw[fS]
  refine zL0 D q os tr (i+1) k _ o v σ' (sU h1) (sU h2) (by rwa [show i+1+k=i+(k+1) by omega]) (by rwa [show i+1+k=i+(k+1) by omega]) fun k' o' ad ab aa=> ?_
  have:=hl (k'+1) o' om (sU ab) (by rwa [show i+(k'+1)=i+1+k' by omega])
  rwa [show i+1+k'=i+(k'+1) by omega]
theorem zC9 (ops:List Oper) (q:List (Nat×Nat)): ∀(os:List Oper) (tr:List (V×St)) (i:Nat) (e:Env) (σ:St),zv1 P c nt n0 ops q i os e σ tr->
  tr.length=os.length/\ ∀(k:Nat) o,os[k]? =some o-> ∃v σ',tr[k]? =some (v,σ')/\Fact P c nt n0 ops q (i+k) o (fE (fun j=>decide (j<i+k)) i os tr e) (fS (fun j=>decide (j<i+k)) q i os tr σ) v σ'
 | [],[],_,_,_,_=>sM
 | [],_::_,_,_,_,h=>h.elim
 |_::_,[],_,_,_,h=>h.elim
 |o::os,(v,σ')::tr,i,e,σ,⟨hf,ht⟩=>by
  obtain⟨hl,aa⟩:=zC9 ops q os tr (i+1) _ _ ht
  refine⟨by grind,fun k o' hk=> ?_⟩
  cases k with
  |zero=>
   simp at hk
   subst hk
   refine⟨v,σ',rfl, ?_⟩
   rw[D9,fE,fS]
   have h1:(if(fun j=>decide (j<i)) i=true then updO e o.dst v else e)=e:=sM
   have h2:(if((fun j=>decide (j<i)) i&&decide (3<=zT q i o))=true then σ' else σ)=σ:=sM
   rw[h1,h2]
   have e1:fE (fun j=>decide (j<i)) (i+1) os tr e=e:=by
    funext t
    grind[yc4]
   grind[zy7]
  |succ k=>
   obtain⟨v2,s2,h1,h2⟩:=aa k o' (by grind)
   refine⟨v2,s2,by grind, ?_⟩
   rw[show i+(k+1)=i+1+k by omega]
   rw[fE,fS,if_pos (by grind)]
   have hs:(if((fun j=>decide (j<i+1+k)) i&&decide (3<=zT q i o))=true then σ' else σ)=σ':=by
    by_cases ab:3<=zT q i o
    .grind
    .rw[if_neg (by grind)]
     exact(hf.2.1 om).symm
   grind
theorem zO4 (op:Op) (h: ∀x∈op.operands.toList,zD e x=zD e' x):evOp P e σ op=evOp P e' σ op:=by
 have hl: ∀l:List Operand,(∀x∈l,zD e x=zD e' x)->l.map (zD e)=l.map (zD e'):=sM
 have aa: ∀ps:List (Nat×Operand),(∀x∈ps.map (·.2),zD e x=zD e' x)->(ps.map fun p=>(p.1,zD e p.2))=(ps.map fun p=>(p.1,zD e' p.2)):=fun ps hp=>
  Bk (by grind)
 cases op with
 |build t ps=>grind[evOp,Op.operands]
 |buildSlice t n ps=>grind[evOp,Op.operands]
 |makeFunc fn first caps=>grind[evOp,Op.operands]
 |slice t x lo hi mx=>cases lo<;>cases hi<;>cases mx<;>simp_all[evOp,Op.operands]
 |makeMap t r=>cases r<;>simp_all[evOp,Op.operands]
 |next x b=>cases b<;>simp_all[evOp,Op.operands]
 |call cl=>
  obtain⟨ab,args,ts⟩:=cl
  cases ab with
  |builtin b=>
   have h': ∀x∈args.toList,zD e x=zD e' x:=(by grind[Op.operands,Call.operands])
   obtain⟨args⟩:=args
   cases b<;>simp only[evOp]
   all_goals grind
  |_=>simp only[evOp]
 |_=>first|rfl|(simp_all[evOp,Op.operands];done)
theorem yI0 (op:Op) (h: ∀x∈op.operands.toList,zD e x=zD e' x):za5 P e σ op=za5 P e' σ op:=by
 have hc:=zO4 (P:=P) (σ:=σ) op h
 have aa: ∀ps:List (Nat×Operand),(∀x∈ps.map (·.2),zD e x=zD e' x)->(ps.map fun p=>(p.1,zD e p.2))=(ps.map fun p=>(p.1,zD e' p.2)):=fun ps hp=>
  Bk (by grind)
 cases op with
 |buildSlice t n ps=>grind[za5,Op.operands]
 |makeSlice t l m=>grind[za5,Op.operands]
 |convert t t' x=>grind[za5,Op.operands]
 |slice t x lo hi mx=>
  cases lo with
  |none=>exact hc
  |some lo=>cases hi with
   |some _=>exact hc
   |none=>cases mx<;>grind[za5,Op.operands]
 |next x b=>cases b<;>simp_all[za5,Op.operands]
 |call cl=>
  obtain⟨ab,args,ts⟩:=cl
  cases ab with
  |builtin b=>
   have h': ∀x∈args.toList,zD e x=zD e' x:=(by grind[Op.operands,Call.operands])
   obtain⟨args⟩:=args
   cases b
   case append=>simp only[za5];grind
   all_goals simpa
  |_=>exact hc
 |_=>exact hc
theorem yH9 {d:Option Tmp} (op:Op) (hd:ze3 e d=ze3 e' d) (h: ∀x∈op.operands.toList,zD e x=zD e' x):xR P d e σ op=xR P d e' σ op:=by
 grind[xR,zO4,yI0]
theorem xw6 {σ':St} (o:Oper) (hc: ∀f az ts,o.op≠ .call ⟨.value f,az,ts⟩) (h:ze6 o.op=0):evOp P e σ o.op=evOp P e σ' o.op:=by
 obtain⟨dst,op,ty,pos,aft,g⟩:=o
 simp only at h hc⊢
 cases op with
 |call cl=>
  obtain⟨aa,args,ts⟩:=cl
  cases aa with
  |builtin b=>obtain⟨args⟩:=args;cases b<;>first|(simp[ze6]at h;done)|(simp only[evOp];done)|(simp only[evOp];split<;>first|rfl|contradiction|(rename_i heq;simp at heq))
  |value f=>rfl
  |_=>rfl
 |slice t x lo hi mx=>cases lo<;>cases hi<;>cases mx<;>rfl
 |_=>first|rfl|(simp[ze6]at h;done)
section
variable {e:Env} {σ:St} {a:Act} {w:World} {L:Nat->Nat} {β:List Value}
theorem zT8 {ops:List Oper} {Q:Exit->Act->World->Prop} {next:Act->World->Prop} (o:Oper) {K:Env->St->Prop} (h:Sim c nt e σ a w L β) (hK:vgd o.guard ops e (vop P c nt o.dst o.op K e σ) (vput nt o.dst (.tup []) K e σ))
  (hn: ∀e' σ' a' w' L' β',Sim c nt e' σ' a' w' L' β'->K e' σ'->next a' w'):
  if Region.wanted o (yielded ops.toArray a.tmps)then o.wp P a w next Q∨(o.asks P a w/\LetsOut Q)else next (a.put o.dst undef) w:=by
 have no:vput nt o.dst (.tup []) K e σ->next (a.put o.dst undef) w:=fun hv=>by
  obtain⟨e',hs,hk⟩:=zD1 h h.mem (Le.refl _ _) (Ext.refl _ _) (show RdS w L σ β (.tup []) undef from⟨[],rfl,tV⟩) hv
  grind
 unfold vgd at hK
 split at hK
 .rename_i hg
  rw[if_pos (by grind[Region.wanted])]
  grind[yD6]
 .rename_i j want hg
  split at hK
  .rename_i t ht
   have hv:=h.env t
   unfold vgrd at hK
   split at hK
   .rename_i b hb
    rw[hb]at hv
    have hv:=zd3 hv
    have hy:yielded ops.toArray a.tmps j=some b:=by
     unfold yielded
     unfold gdst at ht
     have aa:(ops.toArray[j]?).bind (·.dst)=some t:=by grind
     rw[aa]
     simp only[Ar]
     have ab:t<a.tmps.size:=by
      rcases C1 t a.tmps.size with q|q
      .exact q
      .simp[Array.getD,Nat.not_lt.2 q,undef]at hv
     simp_all
    by_cases ad:b=want
    .rw[if_pos (by grind[Region.wanted])]
     grind[yD6]
    simp_all[Region.wanted]
   .rename_i hb
    rw[hb]at hv
    rw[if_neg (by grind[Region.wanted,yb3])]
    grind
   grind
  grind
theorem zs1 {d:Option Tmp} {v:V} {K:Env->St->Prop} (hd: ∀t,d=some t->t<nt) (h:K (updO e d v) σ):vput nt d v K e σ:=by
 cases d with
 |none=>exact h
 |some t=>exact⟨hd t rfl,h⟩
theorem yS9 {t:TypeId} {S:St} {x:V} (h:imm n0 x=true) (ht:n0.of σ=n0.of S):zh9 P t σ x=zh9 P t S x:=by
 cases x with
 |ptr id off=>
  have:σ[id]? =S[id]? :=Kp.get h ht
  grind[zh9]
 |lsp id s n k j=>
  have:σ[id]? =S[id]? :=Kp.get h ht
  grind[zh9]
 |_=>rfl
theorem Fact.step {ops:List Oper} {q:List (Nat×Nat)} {i:Nat} {o:Oper} {E:Env} {S:St} {v:V} {σ':St} (hf:Fact P c nt n0 ops q i o E S v σ') (he: ∀t∈zw0 ops o,e t=E t) (hs:2<=zT q i o->σ=S) (h1:zT q i o=1->n0.of σ=n0.of S):
  vgd o.guard ops e (vop P c nt o.dst o.op (fun e' s'=>e'=updO e o.dst v/\s'=if 3<=zT q i o then σ' else σ) e σ) (vput nt o.dst (.tup []) (fun e' s'=>e'=updO e o.dst v/\s'=if 3<=zT q i o then σ' else σ) e σ):=by
 obtain⟨hd,av,_,_,g,hg,hb⟩:=hf
 have ah: ∀x∈o.op.operands.toList,zD e x=zD E x:=fun x hx=>by
  cases x with
  |tmp t=>exact he t (List.mem_append_left _ (by grind))
  |_=>rfl
 have keep:σ'=S->(if 3<=zT q i o then σ' else σ)=σ:=(by grind)
 have yes:g=true->vop P c nt o.dst o.op (fun e' s'=>e'=updO e o.dst v/\s'=if 3<=zT q i o then σ' else σ) e σ:=by
  intro al
  rw[if_pos al]at hb
  unfold vop
  split
  .rename_i f args ts ab
   rw[ab]at hb ah
   simp only at hb
   have an:=h1
   have h1:zD e f=zD E f:=(by grind[Op.operands,Call.operands])
   have h2:args.toList.map (zD e)=args.toList.map (zD E):=(by grind[Bk,Op.operands,Call.operands])
   rw[h1,h2]
   split at hb
   .rename_i ao
    refine(hb σ).mono ?_
    rintro x s' ⟨rfl,rfl⟩
    exact zs1 hd (by grind)
   .rename_i ao
    split at hb
    .rename_i aa
     refine(hb σ (an aa)).mono ?_
     rintro x s' ⟨rfl,rfl⟩
     exact zs1 hd (by grind)
    rename_i aa
    rw[hs om]
    refine hb.mono ?_
    rintro x s' ⟨rfl,rfl⟩
    refine zs1 hd ⟨rfl, ?_⟩
    grind
  .rename_i aw
   have ad:(zT q i o<3->hok P o.dst E o.op)/\(zT q i o=0->ze6 o.op=0)/\(zT q i o=1->(∃t x,o.op= .load t x/\imm n0 (zD E x)=true)∨(∀t x,o.op≠ .load t x)/\ ∀s,n0.of s=n0.of S->evOp P E s o.op=evOp P E S o.op)/\((xR P o.dst E S o.op= .ok v/\σ'=S)∨(∃p,xR P o.dst E S o.op= .need p v/\p/\σ'=S)∨(3<=zT q i o/\(xR P o.dst E S o.op= .st v σ'∨ ∃p,xR P o.dst E S o.op= .needst p v σ'/\p))):=by
    grind
   obtain⟨hh,hz,ho,ad⟩:=ad
   have ax:ze3 e o.dst=ze3 E o.dst:=(by grind[yz5,zw0])
   have ae:xR P o.dst e σ o.op=xR P o.dst E S o.op:=by
    by_cases h3:zT q i o<3
    .have ai:=hh h3
     have aq:hok P o.dst e o.op:=by
      unfold hok at ai⊢
      grind
     rw[zp2 aq,zp2 ai,zO4 o.op ah]
     by_cases h0:zT q i o=0
     .grind[xw6]
     .by_cases aa:zT q i o=1
      .rcases ho aa with ⟨t,x,ab,aj⟩|⟨_,aj⟩
       .rw[ab]
        exact yS9 aj (h1 aa)
       grind
      grind
    grind[yH9]
   rw[ae]
   rcases ad with ⟨hr,hq⟩|⟨p,hr,hp,hq⟩|⟨h2,hr|⟨p,hr,hp⟩⟩
   .rw[hr];exact zs1 (K:=(fun e' s'=>e'=updO e o.dst v/\s'=if 3<=zT q i o then σ' else σ)) hd (by grind)
   .rw[hr];exact⟨hp,zs1 (K:=(fun e' s'=>e'=updO e o.dst v/\s'=if 3<=zT q i o then σ' else σ)) hd (by grind)⟩
   .rw[hr]
    show vput nt o.dst v (fun e' s'=>e'=updO e o.dst v/\s'=if 3<=zT q i o then σ' else σ) e σ'
    exact zs1 (K:=(fun e' s'=>e'=updO e o.dst v/\s'=if 3<=zT q i o then σ' else σ)) hd (by grind)
   .rw[hr]
    show p/\vput nt o.dst v (fun e' s'=>e'=updO e o.dst v/\s'=if 3<=zT q i o then σ' else σ) e σ'
    exact⟨hp,zs1 (K:=(fun e' s'=>e'=updO e o.dst v/\s'=if 3<=zT q i o then σ' else σ)) hd (by grind)⟩
 have no:g=false->vput nt o.dst (.tup []) (fun e' s'=>e'=updO e o.dst v/\s'=if 3<=zT q i o then σ' else σ) e σ:=by
  intro ar
  rw[if_neg (by simp[ar])]at hb
  obtain⟨rfl,hq⟩:=hb
  exact zs1 hd (by grind)
 unfold vgd
 split
 .grind
 .rename_i j want au
  rw[au]at hg
  obtain⟨t,ht,af⟩:=hg
  rw[ht]
  simp only
  have:e t=E t:=he t (List.mem_append_left _ (by grind))
  rcases af with ⟨b,ag,ak⟩|⟨ag,ak⟩
  .rw[this,ag]
   exact⟨(by grind),(by grind)⟩
  .rw[this,ag]
   exact no ak
end
variable {ops:List Oper}{q:List (Nat×Nat)}{i:Nat}{j:Nat}{tr:List (V×St)}
theorem yT {a b:Oper} (h:zM8 ops q i j a b=false):
  zZ8 (zT q i a) (zT q j b)=false/\(∀d,a.dst=some d->d∉zw0 ops b/\b.dst≠some d)/\(∀d,b.dst=some d->d∉zw0 ops a):=by
 grind[zM8]
theorem wC (q:List (Nat×Nat)) (i:Nat) (o:Oper):zT q i o<=4:=by
 unfold zT
 split
 .omega
 .unfold ze6
  grind
theorem zn0 {a b:Nat} (ha:3<=a) (aa:a<=4) (hb:2<=b) (ab:b<=4):zZ8 a b=true:=by
 have h1:a=3∨a=4:=om
 have h2:b=2∨b=3∨b=4:=om
 rcases h1 with rfl|rfl<;>rcases h2 with rfl|rfl|rfl<;>rfl
theorem zE4 (a b:Nat):zZ8 a b=zZ8 b a:=by
 grind[zZ8]
theorem zE5 {b:Nat} (hb:1<=b):zZ8 4 b=true:=by
 grind[zZ8]
theorem yZ9 {e0:Env} {σ0:St} (ht:zv1 P c nt n0 ops q 0 ops e0 σ0 tr) (hn:n0.n<=σ0.length):
  ∀(d j:Nat),j+d<=ops.length->(∀(m:Nat) o,j<=m->m<j+d->ops[m]? =some o->zT q m o≠4)->
   n0.n<=(fS (fun x=>decide (x<j)) q 0 ops tr σ0).length/\n0.of (fS (fun x=>decide (x<j+d)) q 0 ops tr σ0)=n0.of (fS (fun x=>decide (x<j)) q 0 ops tr σ0):=by
 obtain⟨_,aa⟩:=zC9 ops q ops tr 0 e0 σ0 ht
 have next: ∀k,k<ops.length-> ∃o v σ',ops[k]? =some o/\Fact P c nt n0 ops q k o (fE (fun j=>decide (j<k)) 0 ops tr e0) (fS (fun j=>decide (j<k)) q 0 ops tr σ0) v σ'/\fS (fun j=>decide (j<k+1)) q 0 ops tr σ0=σ':=by
  intro k hk
  obtain⟨v,σ',ab,hf⟩:=aa k ops[k] sM
  rw[Ae]at hf
  refine⟨ops[k],v,σ',sM,hf, ?_⟩
  by_cases h3:3<=zT q k ops[k]
  .refine zL0 _ q ops tr 0 k σ0 ops[k] v σ' sM ab (by grind) sM (by grind)
  .have:=hf.2.1 om
   rw[this]
   refine zi2 _ _ q ops tr 0 σ0 fun m o' hm ad=> ?_
   grind
 have len: ∀j,j<=ops.length->n0.n<=(fS (fun x=>decide (x<j)) q 0 ops tr σ0).length:=by
  intro j
  induction j with
  |zero=>grind[zy7]
  |succ j ih=>
   intro hj
   obtain⟨o,v,σ',_,hf,he⟩:=next j om
   rw[he]
   exact B3 om hf.2.2.2.1
 intro d
 induction d with
 |zero=>grind
 |succ d ih=>
  intro j hj h4
  obtain⟨h1,h2⟩:=ih j om (by grind)
  refine⟨h1, ?_⟩
  obtain⟨o,v,σ',ho,hf,he⟩:=next (j+d) om
  rw[show j+(d+1)=j+d+1 by omega,he,<-h2]
  have ae:=h4 (j+d) o om om ho
  have hle:=wC q (j+d) o
  by_cases h3:zT q (j+d) o=3
  .rcases hf.2.2.1 h3 with ⟨ext,hx⟩|hx
   .rw[hx,Kp.of_append (len (j+d) om)]
   omega
  .rw[hf.2.1 om]
theorem zd1 (h:zA3 ops q=true) {x y:Oper} (aa:i<j) (hx:ops[i]? =some x) (hy:ops[j]? =some y):
  zM8 ops q i j x y=false∨i∈(befs ops []).getD j []:=by
 unfold zA3 at h
 grind
theorem zh7 {D:Nat->Bool} (hD: ∀(j:Nat) o,ops[j]? =some o->D j=true-> ∀e∈o.after.toList,Region.binds .any e=true->D e.on=true) (hi:i∈(befs ops []).getD j []) (hj:D j=true):D i=true:=by
 rw[A8]at hi
 cases hb:(befs ops [])[j]? with
 |none=>grind
 |some l=>
  rw[hb]at hi
  exact xa3 ops (fun k=>D k=true) hD ops [] [] rfl rfl sM j l hb hj i (by grind)
theorem yr3 {l:Array Bool} (h:l[i]? =some false):(l.setIfInBounds i true).toList.count false+1=l.toList.count false:=by
 grind
theorem xW1 {Q:Exit->Env->St->Prop} {e0:Env} {σ0:St} (hn:n0.n<=σ0.length) (hd:zA3 ops q=true) (av:zc8 ops=true) (ht:zv1 P c nt n0 ops q 0 ops e0 σ0 tr)
  (hQ:Q .normal (fE (fun _=>true) 0 ops tr e0) (fS (fun _=>true) q 0 ops tr σ0)):
  ∀(fuel:Nat) (listed:Array Bool) (a:Act) (w:World) (L:Nat->Nat) (β:List Value),listed.size=ops.length->listed.toList.count false=fuel->
   (∀(j:Nat) o,ops[j]? =some o->listed.getD j false=true-> ∀e∈o.after.toList,Region.binds .any e=true->listed.getD e.on false=true)->
   Sim c nt (fE (fun i=>listed.getD i false) 0 ops tr e0) (fS (fun i=>listed.getD i false) q 0 ops tr σ0) a w L β->
   wpAny P .any ops.toArray (Lift c nt Q) fuel listed a w:=by
 obtain⟨aw,aI⟩:=zC9 ops q ops tr 0 e0 σ0 ht
 have fin: ∀(listed:Array Bool) (a:Act) (w:World) (L:Nat->Nat) (β:List Value),Sim c nt (fE (fun i=>listed.getD i false) 0 ops tr e0) (fS (fun i=>listed.getD i false) q 0 ops tr σ0) a w L β->
   (∀i,i<ops.length->listed.getD i false=true)->Lift c nt Q .normal a w:=by
  intro listed a w L β hs ab
  have e1:fE (fun i=>listed.getD i false) 0 ops tr e0=fE (fun _=>true) 0 ops tr e0:=by
   funext t
   exact ze2 _ _ t ops tr 0 e0 e0 rfl fun k o hk _=>by rw[Ae];exact ab k (A6.1 hk).1
  have e2:fS (fun i=>listed.getD i false) q 0 ops tr σ0=fS (fun _=>true) q 0 ops tr σ0:=
   zi2 _ _ q ops tr 0 σ0 fun k o hk _=>by rw[Ae];exact ab k (A6.1 hk).1
  rw[e1,e2]at hs
  exact⟨_,_,L,β,hs,hQ⟩
 have ax: ∀(listed:Array Bool),listed.size=ops.length->Region.ready .any ops.toArray listed= []-> ∀i,i<ops.length->listed.getD i false=true:=by
  intro listed ai hr i
  induction i using Nat.strongRecOn with
  |ind i ih=>
   intro hi
   cases an:listed.getD i false with
   |true=>rfl
   |false=>
    exfalso
    have hm:i∈Region.ready .any ops.toArray listed:=by
     refine mem_ready.2 ⟨?_,ops[i],by simp[hi],fun e he hb=> ?_⟩
     .have af:i<listed.size:=om
      simpa[Array.getD,af]using an
     .unfold zc8 at av
      simp only[Aj,Ci]at av
      have:=av i hi
      rw[A0 hi]at this
      simp only[Ce]at this
      have:=this e he
      simp only[hb,Bool.not_true,Bx,decide_eq_true_eq]at this
      exact ih e.on this om
    rw[hr]at hm
    cases hm
 intro fuel
 induction fuel with
 |zero=>
  intro listed a w L β ai aA ao hs
  have ab: ∀i,i<ops.length->listed.getD i false=true:=by
   intro i hi
   have af:i<listed.size:=om
   cases an:listed[i]with
   |true=>simp[Array.getD,af,an]
   |false=>
    exfalso
    have:false∈listed.toList:=by
     rw[<-an];simp
    have:=List.count_pos_iff.2 this
    omega
  refine⟨?_,fin listed a w L β hs ab⟩
  cases hr:Region.ready .any ops.toArray listed with
  |nil=>rfl
  |cons i l=>
   exfalso
   have hm:i∈Region.ready .any ops.toArray listed:=by rw[hr];simp
   obtain⟨h1,o,ho,_⟩:=mem_ready.1 hm
   have hi:i<ops.length:=(A6.1 (sU ho)).1
   have:=ab i hi
   have af:i<listed.size:=om
   simp[Array.getD,af]at this h1
   rw[this]at h1
   cases h1
 |succ fuel ih=>
  intro listed a w L β ai aA ao hs
  refine⟨fun hr=>fin listed a w L β hs (ax listed ai hr),fun i hi=> ?_⟩
  obtain⟨h1,o,ho,ay⟩:=mem_ready.1 hi
  have aa:ops[i]? =some o:=sU ho
  have af:i<listed.size:=by rw[ai];exact(A6.1 aa).1
  have aq:listed.getD i false=false:=by
   simp[Array.getD,af]at h1⊢;exact h1
  have ah: ∀k,k≠i->(listed.setIfInBounds i true).getD k false=listed.getD k false:=fun k hk=>getD_set_ne false (fun q=>hk q.symm)
  have az:(listed.setIfInBounds i true).getD i false=true:=by simp[Array.getD,af]
  have au: ∀(j:Nat) o,ops[j]? =some o->(listed.setIfInBounds i true).getD j false=true-> ∀e∈o.after.toList,Region.binds .any e=true->(listed.setIfInBounds i true).getD e.on false=true:=by
   intro j o' hj aB e he hb
   by_cases aC:j=i
   .subst aC
    rw[aa]at hj
    cases hj
    exact getD_set_true (ay e (sU he) hb)
   .rw[ah j aC]at aB
    exact getD_set_true (ao j o' hj aB e he hb)
  have ahead: ∀{k:Nat},k≠i->k∈(befs ops []).getD i []->listed.getD k false=true:=fun{k} hk hb=>by
   have:=zh7 (D:=fun j=>(listed.setIfInBounds i true).getD j false) au hb az
   rwa [ah k hk]at this
  have zf8: ∀{k:Nat},i∈(befs ops []).getD k []->listed.getD k false=false:=fun{k} hb=>by
   cases hk:listed.getD k false with
   |false=>rfl
   |true=>
    have:=zh7 (D:=fun j=>listed.getD j false) ao hb hk
    rw[aq]at this;cases this
  obtain⟨v,σ',aD,aj⟩:=aI i o aa
  rw[Ae]at aj
  have aE: ∀t∈zw0 ops o,fE (fun i=>listed.getD i false) 0 ops tr e0 t=fE (fun j=>decide (j<i)) 0 ops tr e0 t:=by
   intro t aw
   refine ze2 _ _ t ops tr 0 e0 e0 rfl fun k o' hk ae=> ?_
   rw[Ae]
   rcases Bc k i with ad|ad|ad
   .rw[decide_eq_true ad]
    rcases zd1 hd ad hk aa with hc|hb
    .exact absurd aw ((yT hc).2.1 t ae).1
    .exact ahead om hb
   .subst ad;rw[aq];simp
   .rw[decide_eq_false om]
    rcases zd1 hd ad aa hk with hc|hb
    .exact absurd aw ((yT hc).2.2 t ae)
    .exact zf8 hb
  have ar:2<=zT q i o->fS (fun i=>listed.getD i false) q 0 ops tr σ0=fS (fun j=>decide (j<i)) q 0 ops tr σ0:=by
   intro ag
   refine zi2 _ _ q ops tr 0 σ0 fun k o' hk ae=> ?_
   rw[Ae]at ae⊢
   rcases Bc k i with ad|ad|ad
   .rw[decide_eq_true ad]
    rcases zd1 hd ad hk aa with hc|hb
    .have:=(yT hc).1
     rw[zn0 ae (wC _ _ _) ag (wC _ _ _)]at this
     cases this
    .exact ahead om hb
   .subst ad;rw[aq];simp
   .rw[decide_eq_false om]
    rcases zd1 hd ad aa hk with hc|hb
    .have:=(yT hc).1
     rw[zE4,zn0 ae (wC _ _ _) ag (wC _ _ _)]at this
     cases this
    .exact zf8 hb
  have aF:zT q i o=1->n0.of (fS (fun i=>listed.getD i false) q 0 ops tr σ0)=n0.of (fS (fun j=>decide (j<i)) q 0 ops tr σ0):=by
   intro aG
   have pre: ∀N,N<=ops.length-> ∃m,m<=N/\ ∀k o',k<N->ops[k]? =some o'->3<=zT q k o'->listed.getD k false=decide (k<m):=by
    intro N
    induction N with
    |zero=>exact fun _=>⟨0,A4 _,fun k o' h=>om⟩
    |succ N aJ=>
     intro hN
     obtain⟨m,hm,ab⟩:=aJ om
     have aH:=A0 (show N<ops.length by omega)
     by_cases hw:3<=zT q N (ops[N]'om)/\listed.getD N false=true
     .refine⟨N+1,A4 _,fun k o' hk ak h3=> ?_⟩
      rw[decide_eq_true hk]
      by_cases a1:k=N
      .subst a1;exact hw.2
      .rcases zd1 hd (show k<N by omega) ak aH with hc|hb
       .have:=(yT hc).1
        rw[zn0 h3 (wC _ _ _) om (wC _ _ _)]at this
        cases this
       .exact zh7 (D:=fun j=>listed.getD j false) ao hb hw.2
     .refine⟨m,om,fun k o' hk ak h3=> ?_⟩
      by_cases a1:k=N
      .subst a1
       rw[aH]at ak;cases ak
       rw[decide_eq_false om]
       cases hl:listed.getD k false with
       |false=>rfl
       |true=>exact absurd ⟨h3,hl⟩ hw
      .exact ab k o' om ak h3
   obtain⟨m,hm,ab⟩:=pre ops.length (A4 _)
   have e1:fS (fun i=>listed.getD i false) q 0 ops tr σ0=fS (fun x=>decide (x<m)) q 0 ops tr σ0:=
    zi2 _ _ q ops tr 0 σ0 fun k o' hk h3=>by
     rw[Ae]at h3⊢
     exact ab k o' (A6.1 hk).1 hk h3
   rw[e1]
   have aP:i<ops.length:=(A6.1 aa).1
   rcases Nat.le_total m i with aK|aK
   .have:=(yZ9 ht hn (i - m) m om (fun k o' h5 h6 hk h4=>by
     have h7:=ab k o' (A6.1 hk).1 hk om
     rw[decide_eq_false om]at h7
     rcases zd1 hd (show k<i by omega) hk aa with hc|hb
     .have:=(yT hc).1
      rw[h4,aG,zE5 dc]at this
      cases this
     .rw[ahead om hb]at h7;cases h7)).2
    rw[show m+(i - m)=i by omega]at this
    exact this.symm
   .have:=(yZ9 ht hn (m - i) i om (fun k o' h5 h6 hk h4=>by
     have h7:=ab k o' (A6.1 hk).1 hk om
     rw[decide_eq_true om]at h7
     have ad:k≠i:=fun qq=>by
      subst qq
      rw[hk]at aa;cases aa
      omega
     rcases zd1 hd (show i<k by omega) aa hk with hc|hb
     .have:=(yT hc).1
      rw[zE4,h4,aG,zE5 dc]at this
      cases this
     .rw[zf8 hb]at h7;cases h7)).2
    rw[show i+(m - i)=m by omega]at this
    exact this
  have aL:=zT8 (ops:=ops) (Q:=Lift c nt Q) (next:=wpAny P .any ops.toArray (Lift c nt Q) fuel (listed.setIfInBounds i true)) o hs (aj.step aE ar aF) (by
   rintro e' s' a' w' L' β' aQ ⟨rfl,rfl⟩
   refine ih _ a' w' L' β' (sU ai) ?_ au ?_
   .have:=yr3 (l:=listed) (i:=i) (by
     rw[B0 af]
     have:=aq
     simp[Array.getD,af]at this
     rw[this])
    omega
   .have e1:updO (fE (fun i=>listed.getD i false) 0 ops tr e0) o.dst v=fE (fun k=>(listed.setIfInBounds i true).getD k false) 0 ops tr e0:=by
     funext t
     by_cases al:o.dst=some t
     .rw[zn1 _ _ _ _ al]
      refine(zE1 _ t ops tr 0 i e0 o v σ' aa aD al (by rw[Ae];exact az) fun k' o' a6 a7 a8=> ?_).symm
      rw[Ae,ah k' om]
      rcases zd1 hd a6 aa a7 with hc|hb
      .exact absurd a8 ((yT hc).2.1 t al).2
      .exact zf8 hb
     .rw[zi4 _ _ _ _ al]
      refine ze2 _ _ t ops tr 0 e0 e0 rfl fun k o' hk ae=> ?_
      rw[Ae]
      refine(ah k fun q=> ?_).symm
      subst q
      rw[aa]at hk;cases hk
      exact al ae
    have e2:(if 3<=zT q i o then σ' else fS (fun i=>listed.getD i false) q 0 ops tr σ0)=fS (fun k=>(listed.setIfInBounds i true).getD k false) q 0 ops tr σ0:=by
     split
     .rename_i ag
      refine(zL0 _ q ops tr 0 i σ0 o v σ' aa aD (by rw[Ae];exact ag) (by rw[Ae];exact az) fun k' o' a6 a7 a8=> ?_).symm
      rw[Ae]at a8⊢
      rw[ah k' om]
      rcases zd1 hd a6 aa a7 with hc|hb
      .have:=(yT hc).1
       rw[zn0 ag (wC _ _ _) om (wC _ _ _)]at this
       cases this
      .exact zf8 hb
     .rename_i ag
      refine zi2 _ _ q ops tr 0 σ0 fun k o' hk ae=> ?_
      rw[Ae]at ae⊢
      refine(ah k fun q=> ?_).symm
      subst q
      rw[aa]at hk;cases hk
      exact ag ae
    grind)
  grind[wpOp]
theorem VW.draw {id:Nat} {Q:Exit->Env->St->Prop} {e:Env} {σ:St} (hm:P.follows .mixedOrders=true) (hn:n0.n<=σ.length) (hd:zA3 ops q=true) (aa:zc8 ops=true)
  (ht:zv1 P c nt n0 ops q 0 ops e σ tr) (hQ:Q .normal (fE (fun _=>true) 0 ops tr e) (fS (fun _=>true) q 0 ops tr σ)):VW P c nt (.region id ops.toArray true) Q e σ:=by
 intro a w L β hs
 refine wp_region_any hm ?_
 have hg: ∀j,(Array.replicate ops.toArray.size false).getD j false=false:=(by simp[Array.getD])
 have e1:fE (fun i=>(Array.replicate ops.toArray.size false).getD i false) 0 ops tr e=e:=by
  funext t
  grind[yc4]
 have e2:fS (fun i=>(Array.replicate ops.toArray.size false).getD i false) q 0 ops tr σ=σ:=(by grind[zy7])
 refine xW1 hn hd aa ht hQ _ _ a w.drew L β sM sM (by grind) ?_
 rw[e1,e2]
 obtain⟨ab,hle⟩:=hs.mem.drew
 exact⟨ab,hs.size,hs.defs,fun t=>(hs.env t).mono hle (Ext.refl _ _)⟩
end
def isSt:R->Bool
 | .st .. | .needst .. =>true
 |_=>false
def zZ7:R->Bool
 | .all _| .any _=>true
 |_=>false
def stOk (n0:Kp) (k:Nat) (σ:St):R->Prop
 | .st _ σ'| .needst _ _ σ'=>σ.length<=σ'.length/\(k=3->KeepN n0 σ σ')
 |_=>True
def vtop (P:Program) (c:Ctx) (nt:Nat) (n0:Kp) (k:Nat) (d:Option Tmp) (op:Op) (K:KT) (e:Env) (σ:St):Prop:=
 match op with
 | .call ⟨.value f,args,_⟩=> ∃v σ',(if k=0 then∀s,VC P c (zD e f) (args.toList.map (zD e)) s (fun r s'=>r=v/\s'=s)else if k=1 then∀s,n0.of s=n0.of σ->VC P c (zD e f) (args.toList.map (zD e)) s (fun r s'=>r=v/\s'=s)else VC P c (zD e f) (args.toList.map (zD e)) σ (fun r s=>r=v/\s=σ'))/\
   (k<3->σ'=σ)/\(k=3->KeepN n0 σ σ')/\σ.length<=σ'.length/\vput nt d v K e σ'
 |op=>(k<3->hok P d e op)/\zZ7 (xR P d e σ op)=false/\(k=0->ze6 op=0)/\(k=1->(∃t x,op= .load t x/\imm n0 (zD e x)=true)∨(∀t x,op≠ .load t x)/\ ∀s,n0.of s=n0.of σ->evOp P e s op=evOp P e σ op)/\(isSt (xR P d e σ op)=true->3<=k)/\stOk n0 k σ (xR P d e σ op)/\vfin nt d (xR P d e σ op) K e σ
def vtr (P:Program) (c:Ctx) (nt:Nat) (n0:Kp) (ops:List Oper) (q:List (Nat×Nat)):Nat->List Oper->KT->Env->St->Prop
 |_,[],K,e,σ=>K e σ
 |i,o::os,K,e,σ=>vgd o.guard ops e (vtop P c nt n0 (zT q i o) o.dst o.op (vtr P c nt n0 ops q (i+1) os K) e σ) (vput nt o.dst (.tup []) (vtr P c nt n0 ops q (i+1) os K) e σ)
section
variable {P:Program} {c:Ctx} {nt:Nat} {n0:Kp}
variable {x:Operand}{t:TypeId}{op:Op}{ops:List Oper}{i:Nat}{y:Operand}{f:FuncId}{caps:List V}{args':List V}{KV:V->St->Prop}{q:List (Nat×Nat)}{n:Nat}{ts:Array TypeId}{s1:St}
theorem yn5 {d:Option Tmp} {v:V} {K:KT} {e:Env} {σ:St} (h:vput nt d v K e σ):(∀t,d=some t->t<nt)/\K (updO e d v) σ:=by
 cases d<;>simpa
theorem zp6 {ops:List Oper} {q:List (Nat×Nat)}: ∀(os:List Oper) (i:Nat) (K:KT) (e:Env) (σ:St),vtr P c nt n0 ops q i os K e σ->
  ∃tr,zv1 P c nt n0 ops q i os e σ tr/\K (fE (fun _=>true) i os tr e) (fS (fun _=>true) q i os tr σ)
 | [],i,K,e,σ,h=>⟨[],tV,h⟩
 |o::os,i,K,e,σ,h=>by
  have go: ∀(v:V) (σ':St),Fact P c nt n0 ops q i o e σ v σ'->vtr P c nt n0 ops q (i+1) os K (updO e o.dst v) σ'-> ∃tr,zv1 P c nt n0 ops q i (o::os) e σ tr/\K (fE (fun _=>true) i (o::os) tr e) (fS (fun _=>true) q i (o::os) tr σ):=by
   intro v σ' hf hk
   obtain⟨tr,ht,hK⟩:=zp6 os (i+1) K _ _ hk
   refine⟨(v,σ')::tr,⟨hf,ht⟩, ?_⟩
   rw[fE,fS,if_pos rfl]
   have:(if((fun _=>true) i&&decide (3<=zT q i o))=true then σ' else σ)=σ':=by
    by_cases h2:3<=zT q i o
    .grind
    .rw[if_neg (by simp[h2])];exact(hf.2.1 om).symm
   grind
  have yes:(match o.guard with|none=>True|some (j,want)=> ∃t b,gdst ops j=some t/\e t= .bool b/\b=want)->vtop P c nt n0 (zT q i o) o.dst o.op (vtr P c nt n0 ops q (i+1) os K) e σ->
    ∃tr,zv1 P c nt n0 ops q i (o::os) e σ tr/\K (fE (fun _=>true) i (o::os) tr e) (fS (fun _=>true) q i (o::os) tr σ):=by
   intro hg hv
   have af: ∃g:Bool,(match o.guard with|none=>g=true|some (j,want)=> ∃t,gdst ops j=some t/\((∃b,e t= .bool b/\g=(b==want))∨(e t= .tup []/\g=false)))/\g=true:=by
    refine⟨true, ?_,rfl⟩
    grind
   obtain⟨g,ab,rfl⟩:=af
   unfold vtop at hv
   split at hv
   .rename_i f args ts ai
    obtain⟨v,σ',aj,ag,h3,hlen,hp⟩:=hv
    obtain⟨hd,hk⟩:=yn5 hp
    refine go v σ' ⟨hd,ag,h3,hlen,true,ab, ?_⟩ hk
    grind
   .rename_i ak
    obtain⟨al,ad,hz,an,ae,aa,hv⟩:=hv
    have done: ∀v σ',(zT q i o<3->σ'=σ)->(zT q i o=3->KeepN n0 σ σ')->σ.length<=σ'.length->
      ((xR P o.dst e σ o.op= .ok v/\σ'=σ)∨(∃p,xR P o.dst e σ o.op= .need p v/\p/\σ'=σ)∨(3<=zT q i o/\(xR P o.dst e σ o.op= .st v σ'∨ ∃p,xR P o.dst e σ o.op= .needst p v σ'/\p)))->
      vput nt o.dst v (vtr P c nt n0 ops q (i+1) os K) e σ'-> ∃tr,zv1 P c nt n0 ops q i (o::os) e σ tr/\K (fE (fun _=>true) i (o::os) tr e) (fS (fun _=>true) q i (o::os) tr σ):=by
     intro v σ' h2 h3 hlen hf hp
     obtain⟨hd,hk⟩:=yn5 hp
     refine go v σ' ⟨hd,h2,h3,hlen,true,ab, ?_⟩ hk
     grind
    cases hr:xR P o.dst e σ o.op with
    |all f=>rw[hr]at ad;trivial
    |any l=>rw[hr]at ad;trivial
    |fail=>rw[hr]at hv;trivial
    |ok v=>rw[hr]at hv;exact done v σ sM (fun _=>KeepN.refl) om (by grind) hv
    |need p v=>rw[hr]at hv;exact done v σ sM (fun _=>KeepN.refl) om (.inr (.inl ⟨p,hr,hv.1,rfl⟩)) hv.2
    |st v σ'=>
     rw[hr]at hv aa
     have h3:=ae (by rw[hr];rfl)
     exact done v σ' om aa.2 aa.1 (by grind) hv
    |needst p v σ'=>
     rw[hr]at hv aa
     have h3:=ae (by rw[hr];rfl)
     exact done v σ' om aa.2 aa.1 (.inr (.inr ⟨h3,.inr ⟨p,hr,hv.1⟩⟩)) hv.2
  have no:(∃j want t,o.guard=some (j,want)/\gdst ops j=some t/\((∃b,e t= .bool b/\b≠want)∨e t= .tup []))->vput nt o.dst (.tup []) (vtr P c nt n0 ops q (i+1) os K) e σ->
    ∃tr,zv1 P c nt n0 ops q i (o::os) e σ tr/\K (fE (fun _=>true) i (o::os) tr e) (fS (fun _=>true) q i (o::os) tr σ):=by
   rintro⟨j,want,t,hg,h1,h2⟩ hv
   obtain⟨hd,hk⟩:=yn5 hv
   refine go (.tup []) σ ⟨hd,fun _=>rfl,fun _=>KeepN.refl,om,false, ?_, ?_⟩ hk
   all_goals grind
  unfold vtr vgd at h
  split at h
  .grind
  .rename_i j want hg
   split at h
   .rename_i t ht
    unfold vgrd at h
    split at h
    .rename_i b hb
     by_cases ah:b=want
     .grind
     .exact no (by grind) (h.2 ah)
    .rename_i hb
     exact no (by grind) h
    grind
   grind
def wtr (P:Program) (c:Ctx) (nt:Nat) (n0:Kp) (ops:List Oper) (q:List (Nat×Nat)) (i:Nat) (l:List Oper) (K:KT) (_:Fx ops) (_:Fx l) (_:Fx K) (e:Env) (σ:St):Prop:=vtr P c nt n0 ops q i l K e σ
def wtop (P:Program) (c:Ctx) (nt:Nat) (n0:Kp) (k:Nat) (d:Option Tmp) (op:Op) (K:KT) (_:Fx op) (_:Fx K) (e:Env) (σ:St):Prop:=vtop P c nt n0 k d op K e σ
def wVD (P:Program) (c:Ctx) (n0:Kp) (k:Nat) (fv:V) (az:List V) (σ:St) (K:V->St->Prop) (_:Fx K):Prop:=
 ∃v σ',(if k=0 then∀s,VC P c fv az s (fun r s'=>r=v/\s'=s)else if k=1 then∀s,n0.of s=n0.of σ->VC P c fv az s (fun r s'=>r=v/\s'=s)else VC P c fv az σ (fun r s=>r=v/\s=σ'))/\(k<3->σ'=σ)/\(k=3->KeepN n0 σ σ')/\σ.length<=σ'.length/\K v σ'
theorem xA {id:Nat} {Q:QT} {e:Env} {σ:St} (q:List (Nat×Nat)) (n0:Nat) (hn:σ.length=n0) (hm:P.follows .mixedOrders=true) (hd:(zA3 ops q&&zc8 ops)=true) (h:wtr P c nt (Kp.pre n0) ops q 0 ops (Q .normal) fx fx fx e σ):wVW P c nt (.region id ops.toArray true) Q fx fx e σ:=by
 simp only[A1]at hd
 obtain⟨tr,ht,hK⟩:=zp6 ops 0 (Q .normal) e σ h
 exact VW.draw (n0:=Kp.pre n0) hm (by grind) hd.1 hd.2 ht hK
def xz7 (q:List (Nat×Nat)) (i:Nat) (op:Op):Nat:=match q.find? (·.1==i)with|some p=>min p.2 4|none=>ze6 op
variable {e:Env} {σ:St} {K:KT} {Q:QT} {d:Option Tmp} {k:Nat}
@[go_sem] theorem wtr_nil:wtr P c nt n0 ops q i [] K fx fx fx e σ=K e σ:=id rfl
@[go_sem] theorem wtr_cons {rest:List Oper} {ty:TypeId} {pos:String} {aft:Array Edge}:wtr P c nt n0 ops q i (⟨d,op,ty,pos,aft,none⟩::rest) K fx fx fx e σ=
  wtop P c nt n0 (xz7 q i op) d op (wtr P c nt n0 ops q (i+1) rest K fx fx fx) fx fx e σ:=id rfl
@[go_sem] theorem wtr_guard {rest:List Oper} {ty:TypeId} {pos:String} {aft:Array Edge} {j:Nat} {want:Bool}:wtr P c nt n0 ops q i (⟨d,op,ty,pos,aft,some (j,want)⟩::rest) K fx fx fx e σ=
  wgdo (wdst ops fx j) want e (wtop P c nt n0 (xz7 q i op) d op (wtr P c nt n0 ops q (i+1) rest K fx fx fx) fx fx e σ) (wput nt d (.tup []) (wtr P c nt n0 ops q (i+1) rest K fx fx fx) fx e σ) fx fx:=id rfl
attribute [go_sem] xz7 imm
theorem zu7 (op:Op) (h:ze6 op<3):isSt (evOp P e σ op)=false:=by
 cases op with
 |call cl=>
  obtain⟨aa,⟨args⟩,ts⟩:=cl
  cases aa with
  |builtin b=>
   cases b
   case len=>simp only[evOp];split<;>first|rfl|(rename_i heq;simp at heq;done)|(unfold zZ3;(repeat' split)<;>rfl)
   case min=>simp only[evOp];unfold zB0;(repeat' split)<;>rfl
   case max=>simp only[evOp];unfold zB0;(repeat' split)<;>rfl
   all_goals trivial
  |_=>rfl
 |slice t x lo hi mx=>cases lo<;>cases hi<;>cases mx<;>simp only[evOp]<;>first|rfl|(unfold zn3;(repeat' split)<;>rfl)|(unfold zr0;(repeat' split)<;>rfl)
 |move x=>rfl
 |assign x=>rfl
 |pick x y z=>simp only[evOp];unfold zH7;(repeat' split)<;>rfl
 |build t ps=>simp only[evOp];unfold zy3;(repeat' split)<;>rfl
 |buildSlice t n ps=>simp only[evOp];unfold zb4;(repeat' split)<;>rfl
 |nilCheck x=>simp only[evOp];unfold zZ4;(repeat' split)<;>rfl
 |binOp o t x y t'=>simp only[evOp];unfold zu0 yL7 zq9 zt0 zO5 zP8;(repeat' split)<;>rfl
 |unOp o t x=>simp only[evOp];unfold evUn;(repeat' split)<;>rfl
 |convert t t' x=>simp only[evOp];unfold zD8;(repeat' split)<;>rfl
 |fieldAddr t x f=>simp only[evOp];unfold zf4;(repeat' split)<;>rfl
 |field t x f=>simp only[evOp];unfold zy5;(repeat' split)<;>rfl
 |indexAddr t x i=>simp only[evOp];unfold zj0;(repeat' split)<;>rfl
 |index t x i=>simp only[evOp];unfold zQ9;(repeat' split)<;>rfl
 |extract x i=>simp only[evOp];unfold zm6;(repeat' split)<;>rfl
 |makeFunc fn l m=>simp only[evOp];unfold zH6;(repeat' split)<;>rfl
 |load t x=>simp only[evOp];unfold zh9;(repeat' split)<;>first|rfl|(unfold zl4;(repeat' split)<;>rfl)
 |_=>first|(simp[ze6]at h;done)|rfl
theorem zf9 (op:Op) (h: ∀o t x y t',op≠ .binOp o t x y t'):zZ7 (evOp P e σ op)=false:=by
 cases op with
 |call cl=>
  obtain⟨aa,⟨args⟩,ts⟩:=cl
  cases aa with
  |builtin b=>
   cases b
   case len=>simp only[evOp];split<;>first|rfl|(rename_i heq;simp at heq;done)|(unfold zZ3;(repeat' split)<;>rfl)
   case append=>simp only[evOp];split<;>first|rfl|(rename_i heq;simp at heq;done)|(unfold zh8;(repeat' split)<;>rfl)
   case clear=>simp only[evOp];split<;>first|rfl|(rename_i heq;simp at heq;done)|(unfold zt8;(repeat' split)<;>rfl)
   case delete=>simp only[evOp];split<;>first|rfl|(rename_i heq;simp at heq;done)|(unfold zq8;(repeat' split)<;>rfl)
   case min=>simp only[evOp];unfold zB0;(repeat' split)<;>rfl
   case max=>simp only[evOp];unfold zB0;(repeat' split)<;>rfl
   all_goals rfl
  |_=>rfl
 |slice t x lo hi mx=>cases lo<;>cases hi<;>cases mx<;>simp only[evOp]<;>first|rfl|(unfold zn3;(repeat' split)<;>rfl)|(unfold zr0;(repeat' split)<;>rfl)
 |pick x y z=>simp only[evOp];unfold zH7;(repeat' split)<;>rfl
 |alloc t=>simp only[evOp];unfold zl3;(repeat' split)<;>rfl
 |box t x=>simp only[evOp];unfold zQ8;(repeat' split)<;>rfl
 |store t x y=>simp only[evOp];unfold zu1;(repeat' split)<;>rfl
 |makeSlice t l m=>simp only[evOp];unfold zE0;(repeat' split)<;>rfl
 |build t ps=>simp only[evOp];unfold zy3;(repeat' split)<;>rfl
 |buildSlice t n ps=>simp only[evOp];unfold zb4;(repeat' split)<;>rfl
 |nilCheck x=>simp only[evOp];unfold zZ4;(repeat' split)<;>rfl
 |binOp o t x y t'=>grind
 |unOp o t x=>simp only[evOp];unfold evUn;(repeat' split)<;>rfl
 |convert t t' x=>simp only[evOp];unfold zD8;(repeat' split)<;>rfl
 |fieldAddr t x f=>simp only[evOp];unfold zf4;(repeat' split)<;>rfl
 |field t x f=>simp only[evOp];unfold zy5;(repeat' split)<;>rfl
 |indexAddr t x i=>simp only[evOp];unfold zj0;(repeat' split)<;>rfl
 |index t x i=>simp only[evOp];unfold zQ9;(repeat' split)<;>rfl
 |extract x i=>simp only[evOp];unfold zm6;(repeat' split)<;>rfl
 |makeFunc fn l m=>simp only[evOp];unfold zH6;(repeat' split)<;>rfl
 |load t x=>simp only[evOp];unfold zh9;(repeat' split)<;>first|rfl|(unfold zl4;(repeat' split)<;>rfl)
 |makeMap t r=>simp only[evOp];unfold zm7;(repeat' split)<;>rfl
 |lookup t x k ok=>simp only[evOp];unfold xV;(repeat' split)<;>rfl
 |mapUpdate t x k v=>simp only[evOp];unfold xQ;(repeat' split)<;>rfl
 |insert t x k v=>simp only[evOp];unfold xQ;(repeat' split)<;>rfl
 |range t x=>simp only[evOp];unfold zy6;(repeat' split)<;>rfl
 |entry x=>simp only[evOp];unfold zi9;(repeat' split)<;>rfl
 |makeInterface t x=>simp only[evOp];unfold zZ2;(repeat' split)<;>rfl
 |mapEntry t x k=>simp only[evOp];unfold xY;(repeat' split)<;>rfl
 |entryStore t x k v=>simp only[evOp];unfold xL;(repeat' split)<;>rfl
 |next x b=>cases b<;>simp only[evOp]<;>first|rfl|(unfold zi0;(repeat' split)<;>first|rfl|contradiction)
 |_=>rfl
theorem zr8 {r:R} (h:isSt r=false):stOk n0 k σ r:=by
 cases r<;>first|trivial|cases h
theorem zi7 (hA: ∀o t x y t',op≠ .binOp o t x y t') (hL: ∀e σ,za5 P e σ op=evOp P e σ op) (h:ze6 op=0) (hc: ∀f az ts,op≠ .call ⟨.value f,az,ts⟩):wtop P c nt n0 0 d op K fx fx e σ=wop P c nt d op K fx fx e σ:=by
 show vtop P c nt n0 0 d op K e σ=vop P c nt d op K e σ
 have hh:hok P d e op:= .inr hL
 unfold vtop vop
 split
 .grind
 .have:=zu7 (P:=P) (e:=e) (σ:=σ) op om
  split
  .grind
  grind[zr8,zp2,zf9]
theorem zX9 (hA: ∀o t x y t',op≠ .binOp o t x y t') (h:ze6 op=0) (hc: ∀f az ts,op≠ .call ⟨.value f,az,ts⟩):wtop P c nt n0 0 d op K fx fx e σ=zK0 (hok P d e op) (wop P c nt d op K fx fx e σ) fx:=by
 show vtop P c nt n0 0 d op K e σ=(hok P d e op/\vop P c nt d op K e σ)
 by_cases hh:hok P d e op
 .unfold vtop vop
  split
  .grind
  .have:=zu7 (P:=P) (e:=e) (σ:=σ) op om
   split
   .grind
   grind[zr8,zp2,zf9]
 .unfold vtop
  grind
@[go_sem] theorem hok_t (h:ze3 e d=false):hok P d e op=True:=by grind[hok]
theorem yi8:hok P d e (.load t x):= .inr fun _ _=>rfl
theorem yZ4:wtop P c nt n0 1 d (.load t x) K fx fx e σ=zK0 (imm n0 (zD e x)=true) (wop P c nt d (.load t x) K fx fx e σ) fx:=by
 show vtop P c nt n0 1 d (.load t x) K e σ=(_/\vop P c nt d (.load t x) K e σ)
 have:=zu7 (P:=P) (e:=e) (σ:=σ) (.load t x) (show 1<3 by omega)
 have h2:stOk n0 1 σ (evOp P e σ (.load t x)):=zr8 this
 have hA:=zf9 (P:=P) (e:=e) (σ:=σ) (.load t x) (fun _ _ _ _ _ h=>by cases h)
 simp only[vtop,vop,this,h2,zp2 yi8,hA]
 refine propext ⟨fun h=> ?_,fun h=> ?_⟩
 .grind
 .exact⟨fun _=>yi8,tV,om,(by grind),sM,tV,h.2⟩
theorem yZ5:wtop P c nt n0 2 d (.load t x) K fx fx e σ=wop P c nt d (.load t x) K fx fx e σ:=by
 show vtop P c nt n0 2 d (.load t x) K e σ=vop P c nt d (.load t x) K e σ
 have:=zu7 (P:=P) (e:=e) (σ:=σ) (.load t x) (show 1<3 by omega)
 grind[zr8,zf9,vtop,vop,zp2,yi8]
theorem zX5:stOk n0 4 σ (evOp P e σ op):=by
 by_cases h:ze6 op<3
 .grind[zr8,zu7]
 .cases op with
  |alloc t=>simp only[evOp];unfold zl3;(repeat' split)<;>first|trivial|exact⟨sM,om⟩
  |box t x=>simp only[evOp];unfold zQ8;(repeat' split)<;>first|trivial|exact⟨sM,om⟩
  |store t x y=>simp only[evOp];unfold zu1;(repeat' split)<;>first|trivial|exact⟨sM,om⟩
  |makeSlice t l m=>simp only[evOp];unfold zE0;(repeat' split)<;>first|trivial|exact⟨sM,om⟩
  |makeMap t r=>simp only[evOp];unfold zm7;(repeat' split)<;>first|trivial|exact⟨sM,om⟩
  |lookup t x k ok=>simp only[evOp];unfold xV;(repeat' split)<;>trivial
  |mapUpdate t x k v=>simp only[evOp];unfold xQ;(repeat' split)<;>first|trivial|exact⟨sM,om⟩
  |insert t x k v=>simp only[evOp];unfold xQ;(repeat' split)<;>first|trivial|exact⟨sM,om⟩
  |range t x=>simp only[evOp];unfold zy6;(repeat' split)<;>first|trivial|exact⟨sM,om⟩
  |entry x=>simp only[evOp];unfold zi9;(repeat' split)<;>trivial
  |makeInterface t x=>simp only[evOp];unfold zZ2;(repeat' split)<;>trivial
  |mapEntry t x k=>simp only[evOp];unfold xY;(repeat' split)<;>first|trivial|exact⟨sM,om⟩
  |entryStore t x s v=>simp only[evOp];unfold xL;(repeat' split)<;>first|trivial|exact⟨sM,om⟩
  |next x b=>cases b<;>simp only[evOp]<;>first|trivial|(unfold zi0;(repeat' split)<;>first|trivial|exact⟨sM,om⟩)
  |call cl=>
   obtain⟨aa,⟨args⟩,ts⟩:=cl
   cases aa with
   |builtin b=>
    cases b
    case append=>simp only[evOp];split<;>first|trivial|(rename_i heq;simp at heq;done)|(unfold zh8;(repeat' split)<;>first|trivial|exact⟨sM,om⟩)
    case clear=>simp only[evOp];split<;>first|trivial|(rename_i heq;simp at heq;done)|(unfold zt8;(repeat' split)<;>first|trivial|exact⟨sM,om⟩)
    case delete=>simp only[evOp];split<;>first|trivial|(rename_i heq;simp at heq;done)|(unfold zq8;(repeat' split)<;>first|trivial|exact⟨sM,om⟩)
    all_goals first|(simp[ze6]at h;done)|trivial
   |_=>trivial
  |slice t x lo hi mx=>grind[ze6]
  |_=>first|(simp[ze6]at h;done)|trivial
theorem zZ5 (op:Op) (hA: ∀o t x y t',op≠ .binOp o t x y t') (hN: ∀x b,op≠ .next x b):zZ7 (za5 P e σ op)=false:=by
 have h:=zf9 (P:=P) (e:=e) (σ:=σ) op hA
 cases op with
 |buildSlice t n ps=>simp only[za5];unfold za2;(repeat' split)<;>rfl
 |makeSlice t l m=>simp only[za5];unfold zt9;(repeat' split)<;>rfl
 |convert t t' x=>simp only[za5];unfold zy4;(repeat' split)<;>rfl
 |slice t x lo hi mx=>
  cases lo with
  |none=>exact h
  |some lo=>cases hi with
   |some _=>exact h
   |none=>cases mx with
    |some _=>exact h
    |none=>simp only[za5];unfold zr1;(repeat' split)<;>rfl
 |next x b=>grind
 |call cl=>
  obtain⟨aa,⟨args⟩,ts⟩:=cl
  cases aa with
  |builtin b=>
   cases b
   case append=>simp only[za5];split<;>first|exact h|(rename_i heq;simp at heq;done)|(unfold ze1;(repeat' split)<;>rfl)
   all_goals simpa
  |_=>exact h
 |_=>exact h
theorem yX8:stOk n0 4 σ (za5 P e σ op):=by
 have h:stOk n0 4 σ (evOp P e σ op):=zX5
 cases op with
 |buildSlice t n ps=>simp only[za5];unfold za2;(repeat' split)<;>first|trivial|exact⟨sM,om⟩
 |makeSlice t l m=>simp only[za5];unfold zt9;(repeat' split)<;>first|trivial|exact⟨sM,om⟩
 |convert t t' x=>simp only[za5];unfold zy4;(repeat' split)<;>first|trivial|exact⟨sM,om⟩
 |slice t x lo hi mx=>
  cases lo with
  |none=>exact h
  |some lo=>cases hi with
   |some _=>exact h
   |none=>cases mx with
    |some _=>exact h
    |none=>simp only[za5];unfold zr1;(repeat' split)<;>first|trivial|exact⟨sM,om⟩
 |next x b=>cases b<;>simp only[za5]<;>first|exact h|(unfold zi0;(repeat' split)<;>first|trivial|exact⟨sM,om⟩)
 |call cl=>
  obtain⟨aa,⟨args⟩,ts⟩:=cl
  cases aa with
  |builtin b=>
   cases b
   case append=>simp only[za5];split<;>first|exact h|(rename_i heq;simp at heq;done)|(unfold ze1;(repeat' split)<;>first|trivial|exact⟨sM,om⟩)
   all_goals simpa
  |_=>exact h
 |_=>exact h
theorem zY0 (hA: ∀o t x y t',op≠ .binOp o t x y t') (hN: ∀x b,op≠ .next x b) (hc: ∀f az ts,op≠ .call ⟨.value f,az,ts⟩):wtop P c nt n0 4 d op K fx fx e σ=wop P c nt d op K fx fx e σ:=by
 show vtop P c nt n0 4 d op K e σ=vop P c nt d op K e σ
 have h1:zZ7 (xR P d e σ op)=false:=by
  grind[xR,zZ5,zf9]
 have h2:stOk n0 4 σ (xR P d e σ op):=by
  grind[xR,yX8,zX5]
 unfold vtop vop
 grind
theorem zU4 (hA: ∀o t x y t',op≠ .binOp o t x y t') (hN: ∀x b,op≠ .next x b) (_: ∀e σ,za5 P e σ op=evOp P e σ op) (hc: ∀f az ts,op≠ .call ⟨.value f,az,ts⟩):wtop P c nt n0 4 d op K fx fx e σ=wop P c nt d op K fx fx e σ:=zY0 hA hN hc
theorem zz9 (hA: ∀o t x y t',op≠ .binOp o t x y t') (hL: ∀e σ,za5 P e σ op=evOp P e σ op) (h2:stOk n0 3 σ (evOp P e σ op)) (hc: ∀f az ts,op≠ .call ⟨.value f,az,ts⟩):wtop P c nt n0 3 d op K fx fx e σ=wop P c nt d op K fx fx e σ:=by
 show vtop P c nt n0 3 d op K e σ=vop P c nt d op K e σ
 have hh:hok P d e op:= .inr hL
 unfold vtop vop
 split
 .grind
 .split
  .grind
  grind[zp2,zf9]
def Kp.out (k:Kp) (id:Nat):Bool:=(decide (id<k.x)&&k.ob.isNone)||decide (k.n<=id)
@[go_sem] theorem Kp.out_pre {id:Nat}:(Kp.mk 0 n [] none).out id=decide (n<=id):=by rfl
@[go_sem] theorem Kp.out_but {x id:Nat}:(Kp.mk (x+1) n [] none).out id=(decide (id<x+1)||decide (n<=id)):=by simp[Kp.out]
def zf8 (n0:Kp):V->Bool
 | .ptr id _=>n0.out id
 | .lsp id _ _ _ _=>n0.out id
 |_=>false
attribute [go_sem] zf8
@[go_sem] theorem wtop_store3 (h:zf8 n0 (zD e x)=true):wtop P c nt n0 3 d (.store t x y) K fx fx e σ=wop P c nt d (.store t x y) K fx fx e σ:=
 zz9 sM (fun _ _=>rfl) (by
  simp only[evOp]
  unfold zu1
  split
  .rename_i id off hx
   rw[hx]at h
   have h:n0.out id=true:=h
   simp only[Kp.out,Be,A1,Option.isNone_iff_eq_none,decide_eq_true_eq]at h
   (repeat' split)<;>first|trivial|exact⟨sM,fun _=> .inr (Kp.of_set h)⟩
  .rename_i id s n k j hx
   rw[hx]at h
   have h:n0.out id=true:=h
   simp only[Kp.out,Be,A1,Option.isNone_iff_eq_none,decide_eq_true_eq]at h
   (repeat' split)<;>first|trivial|exact⟨sM,fun _=> .inr (Kp.of_set h)⟩
  trivial) sM
@[go_sem] theorem wtop_move:wtop P c nt n0 0 d (.move x) K fx fx e σ=wop P c nt d (.move x) K fx fx e σ:=zi7 sM (fun _ _=>rfl) rfl sM
@[go_sem] theorem wtop_assign:wtop P c nt n0 0 d (.assign x) K fx fx e σ=wop P c nt d (.assign x) K fx fx e σ:=zi7 sM (fun _ _=>rfl) rfl sM
@[go_sem] theorem wtop_pick {z:Operand}:wtop P c nt n0 0 d (.pick x y z) K fx fx e σ=wop P c nt d (.pick x y z) K fx fx e σ:=zi7 sM (fun _ _=>rfl) rfl sM
@[go_sem] theorem wtop_build {l:Array (Nat×Operand)}:wtop P c nt n0 0 d (.build t l) K fx fx e σ=wop P c nt d (.build t l) K fx fx e σ:=zi7 sM (fun _ _=>rfl) rfl sM
@[go_sem] theorem wtop_buildSlice {l:Array (Nat×Operand)}:wtop P c nt n0 0 d (.buildSlice t n l) K fx fx e σ=zK0 (hok P d e (.buildSlice t n l)) (wop P c nt d (.buildSlice t n l) K fx fx e σ) fx:=zX9 sM rfl sM
@[go_sem] theorem wtop_nil:wtop P c nt n0 0 d (.nilCheck x) K fx fx e σ=wop P c nt d (.nilCheck x) K fx fx e σ:=zi7 sM (fun _ _=>rfl) rfl sM
theorem xr4 {op:BinOp} {t':TypeId}:wtop P c nt n0 0 d (.binOp op t x y t') K fx fx e σ=zK0 (zZ7 (wh (zh5 y) (zu0 op (eqK P t) (zD e x)) (wh (zg4 y) (zq9 op (zi3 P t) (zD e x)) (zt0 op (eqK P t) (eqS P t) (zD e x) (zD e y))))=false) (wop P c nt d (.binOp op t x y t') K fx fx e σ) fx:=by
 show vtop P c nt n0 0 d (.binOp op t x y t') K e σ=(zZ7 (evOp P e σ (.binOp op t x y t'))=false/\vop P c nt d (.binOp op t x y t') K e σ)
 have hh:hok P d e (.binOp op t x y t'):= .inr fun _ _=>rfl
 grind[zu7,zr8,vtop,vop,zp2,ze6]
attribute [go_sem] xr4 zZ7
@[go_sem] theorem wtop_un {op:UnOp}:wtop P c nt n0 0 d (.unOp op t x) K fx fx e σ=wop P c nt d (.unOp op t x) K fx fx e σ:=zi7 sM (fun _ _=>rfl) rfl sM
@[go_sem] theorem wtop_conv {t':TypeId}:wtop P c nt n0 0 d (.convert t t' x) K fx fx e σ=zK0 (hok P d e (.convert t t' x)) (wop P c nt d (.convert t t' x) K fx fx e σ) fx:=zX9 sM rfl sM
@[go_sem] theorem wtop_slice {lo hi mx:Option Operand}:wtop P c nt n0 0 d (.slice t x lo hi mx) K fx fx e σ=zK0 (hok P d e (.slice t x lo hi mx)) (wop P c nt d (.slice t x lo hi mx) K fx fx e σ) fx:=zX9 sM rfl sM
@[go_sem] theorem wtop_fieldAddr {f:Nat}:wtop P c nt n0 0 d (.fieldAddr t x f) K fx fx e σ=wop P c nt d (.fieldAddr t x f) K fx fx e σ:=zi7 sM (fun _ _=>rfl) rfl sM
@[go_sem] theorem wtop_idxAddr {i:Operand}:wtop P c nt n0 0 d (.indexAddr t x i) K fx fx e σ=wop P c nt d (.indexAddr t x i) K fx fx e σ:=zi7 sM (fun _ _=>rfl) rfl sM
@[go_sem] theorem wtop_idx {i:Operand}:wtop P c nt n0 0 d (.index t x i) K fx fx e σ=wop P c nt d (.index t x i) K fx fx e σ:=zi7 sM (fun _ _=>rfl) rfl sM
@[go_sem] theorem wtop_extract:wtop P c nt n0 0 d (.extract x i) K fx fx e σ=wop P c nt d (.extract x i) K fx fx e σ:=zi7 sM (fun _ _=>rfl) rfl sM
@[go_sem] theorem wtop_len {l:Array Operand}:wtop P c nt n0 0 d (.call ⟨.builtin .len,l,ts⟩) K fx fx e σ=wop P c nt d (.call ⟨.builtin .len,l,ts⟩) K fx fx e σ:=zi7 sM (fun _ _=>rfl) rfl sM
@[go_sem] theorem wtop_store:wtop P c nt n0 4 d (.store t x y) K fx fx e σ=wop P c nt d (.store t x y) K fx fx e σ:=zU4 sM sM (fun _ _=>rfl) sM
@[go_sem] theorem wtop_append {l:Array Operand}:wtop P c nt n0 4 d (.call ⟨.builtin .append,l,ts⟩) K fx fx e σ=wop P c nt d (.call ⟨.builtin .append,l,ts⟩) K fx fx e σ:=(by simp[zY0])
@[go_sem] theorem wtop_alloc:wtop P c nt n0 3 d (.alloc t) K fx fx e σ=wop P c nt d (.alloc t) K fx fx e σ:=zz9 sM (fun _ _=>rfl) (by
 simp only[evOp];unfold zl3;split<;>first|trivial|exact⟨sM,fun _=> .inl ⟨_,rfl⟩⟩) sM
attribute [go_sem] yZ4 yZ5
@[go_sem] theorem wtop_call {f:Operand} {l:List Operand}:wtop P c nt n0 k d (.call ⟨.value f,l.toArray,ts⟩) K fx fx e σ=wVD P c n0 k (zD e f) (l.map (zD e)) σ (xI2 nt d K fx e) fx:=id rfl
attribute [go_sem] ze6
theorem zi5 {args:List V} {v:V} (hc:Pure P f args' v) (hb:wL P f=true) (aa: ∀N,All2 (argS (ren [] N)) args' (args++caps)) (hn:noS v=true) (hk:KV v σ):
  wVD P c n0 0 (.fn f caps) args σ KV fx:=by
 refine⟨v,σ, ?_,fun _=>rfl,om,om,hk⟩
 rw[if_pos rfl]
 exact fun s=>zM (P:=P) (c:=c) (KV:=fun r s'=>r=v/\s'=s) hc hb (aa _) hn sM
theorem zu2 {sel:List Nat} {σ:St}:(xX sel σ s1).length=σ.length+(s1.length - sel.length):=by
 grind[xX,zb1]
theorem xH2 {args:List V} {σin:St} {v:V} (hc:VCalls P f args' σin (fun r s=>r=v/\s=s1)) (hb:wL P f=true) (sel:List Nat) (ab:sel.Nodup) (hlen:σin.length=sel.length)
  (ad: ∀(i j:Nat) (o:Ob),sel[i]? =some j->σin[i]? =some o->σ[j]? =some (yS (ren sel σ.length) o)) (aa:All2 (argS (ren sel σ.length)) args' (args++caps))
  (hk:KV (renS (ren sel σ.length) v) (xX sel σ s1)):wVD P c n0 4 (.fn f caps) args σ KV fx:=by
 refine⟨_,_, ?_,om,om,by grind[zu2],hk⟩
 rw[if_neg dc,if_neg dc]
 refine VC.of hc hb sel ab hlen ad aa ?_
 simp
theorem yQ7 {args:List V} {σin:St} {v:V} (hc:VCalls P f args' σin (fun r s=>r=v/\s=s1)) (hb:wL P f=true) (sel:List Nat) (ab:sel.Nodup) (hlen:σin.length=sel.length)
  (ad: ∀(i j:Nat) (o:Ob),sel[i]? =some j->σin[i]? =some o->σ[j]? =some (yS (ren sel σ.length) o)) (aa:All2 (argS (ren sel σ.length)) args' (args++caps)) (ae:KeepN n0 σ (xX sel σ s1))
  (hk:KV (renS (ren sel σ.length) v) (xX sel σ s1)):wVD P c n0 3 (.fn f caps) args σ KV fx:=by
 refine⟨_,_, ?_,om,(by grind),by grind[zu2],hk⟩
 rw[if_neg dc,if_neg dc]
 refine VC.of hc hb sel ab hlen ad aa ?_
 simp
theorem xH3 {args:List V} {v:V} (hc:Pure P f args' v) (hb:wL P f=true) (hf: ∀s,n0.of s=n0.of σ-> ∃aa σ1,Frz (args++caps) s aa σ1/\All2 (argS (ren [] σ1.length)) args' aa)
  (ab:yI5 v=true) (hk:KV v σ):wVD P c n0 1 (.fn f caps) args σ KV fx:=by
 refine⟨v,σ, ?_,fun _=>rfl,om,om,hk⟩
 rw[if_neg dc,if_pos rfl]
 intro s hs
 obtain⟨aa,σ1,h1,h2⟩:=hf s hs
 exact VC.view hc hb h1 h2 (by grind) sM
end
def At (n0:Nat) (keep:List Nat) (vs:List V) (s:St) (e:Env) (σ:St):Prop:=
 ∃pick,Picks n0 pick σ s/\All2 (argS (ren pick σ.length)) vs (keep.map e)
def Next {S:Type} (p:S->Prop) (_:Fx p):Prop:= ∃s,p s
theorem zG {S:Type} {p:S->Prop} (s:S) (h:p s):Next p fx:=⟨s,h⟩
section
variable {P:Program} {c:Ctx} {nt:Nat} {e:Env} {σ:St} {a:Act} {w:World} {L:Nat->Nat} {β:List Value} {Q:QT} {n0:Nat}
variable {keep:List Nat}{y:Code}{f:FuncId}{code:Code}{x:Code}{fn:Func}{rs:List ResultVar}{caps:List V}{args':List V}{KV:V->St->Prop}
theorem zA (h:zt4 P c nt code Q fx fx e σ):wVW P c nt code Q fx fx e σ:=zg7 code Q e σ h
theorem zU2 {K:KT} (h:wVW P c nt x (yb2 K Q fx fx) fx fx e σ) (hy: ∀e' σ',K e' σ'->wVW P c nt y Q fx fx e' σ'):wVW P c nt (.seq x y) Q fx fx e σ:=by
 intro a w L β hs
 refine wp_seq (wp_mono (h a w L β hs) fun ex a' w' q=> ?_)
 cases ex with
 |normal=>obtain⟨e',σ',L',β',aa,hq⟩:=q;exact hy e' σ' hq a' w' L' β' aa
 |exit id=>exact q
 |goto l=>exact q
 |ret=>exact q
 |panic ch=>exact q
 |outgrown=>exact q
theorem zP (h:wVW P c nt x (yb2 (wVW P c nt y Q fx fx) Q fx fx) fx fx e σ):wVW P c nt (.seq x y) Q fx fx e σ:=(by grind[zU2])
theorem zh3 {id:Nat} {b:Code} (h:wVW P c nt b (wblk id Q fx) fx fx e σ):wVW P c nt (.block id b) Q fx fx e σ:=by
 intro a w L β hs
 refine wp_block (wp_mono (h a w L β hs) fun ex a' w' q=> ?_)
 cases ex with
 |exit aa=>
  obtain⟨e',σ',L',β',ab,hq⟩:=q
  change (if aa=id then Q .normal e' σ' else Q (.exit aa) e' σ')at hq
  change (if aa=id then Lift c nt Q .normal a' w' else Lift c nt Q (.exit aa) a' w')
  split
  .rename_i hid
   rw[if_pos hid]at hq
   exact⟨e',σ',L',β',ab,hq⟩
  .rename_i hid
   rw[if_neg hid]at hq
   exact⟨e',σ',L',β',ab,hq⟩
 |normal=>exact q
 |goto l=>exact q
 |ret=>exact q
 |panic ch=>exact q
 |outgrown=>exact q
theorem zU1 {b:Bool} {x:Operand} {t f:Code} (hx:zD e x= .bool b) (ht:b=true->wVW P c nt t Q fx fx e σ) (hf:b=false->wVW P c nt f Q fx fx e σ):wVW P c nt (.cond x t f) Q fx fx e σ:=by
 intro a w L β hs
 have hv:=hs.eval x
 rw[hx]at hv
 exact wp_cond_split (zd3 hv) (fun h=>ht h a w L β hs) (fun h=>hf h a w L β hs)
theorem wc6 {vs:List V} {s:St} (hn:c.σ0.length=n0) (hc:c.β0.length=c.σ0.length) (hk:At n0 keep vs s e σ) (hy:wVW P c nt y Q fx fx (envK (keep.zip vs)) s):wVW P c nt y Q fx fx e σ:=by
 intro a w L β hs
 subst hn
 obtain⟨pick,hp,aa⟩:=hk
 obtain⟨vs',s',β',⟨rfl,rfl⟩,_,ab⟩:=zP6 (Inv:=fun vs' s' _=>vs'=vs/\s'=s) (m:=0) hs hc ⟨vs,s,pick,hp,aa,rfl,rfl⟩
 exact hy a w L β' ab
theorem zg2 {S:Type} (keep:List Nat) (aa:S->List V) (ab:S->St) (I:S->Prop) (hn:c.σ0.length=n0) (hc:c.β0.length=c.σ0.length)
  (hx:wVW P c nt x (yb2 (fun e' σ'=>Next (fun s=>I s/\At n0 keep (aa s) (ab s) e' σ') fx) Q fx fx) fx fx e σ)
  (hy: ∀s,I s->wVW P c nt y Q fx fx (envK (keep.zip (aa s))) (ab s)):wVW P c nt (.seq x y) Q fx fx e σ:=
 zU2 hx fun _ _ ⟨s,hI,ad⟩=>(by grind[wc6])
theorem zH {body:Code} {S:Type} (keep:List Nat) (aa:S->List V) (ad:S->St) (ab:S->Nat) (I:S->Prop) (hn:c.σ0.length=n0) (hc:c.β0.length=c.σ0.length)
  (s0:S) (hI:I s0) (h0:At n0 keep (aa s0) (ad s0) e σ)
  (hr: ∀s,I s->wVW P c nt body (yb2 (fun e' σ'=>Next (fun s'=>ab s'<ab s/\I s'/\At n0 keep (aa s') (ad s') e' σ') fx) Q fx fx) fx fx (envK (keep.zip (aa s))) (ad s)):wVW P c nt (.loop body) Q fx fx e σ:=by
 subst hn
 intro a w L β hs
 refine yb1 (fun m a w=> ∃s L β,m=ab s/\I s/\Sim c nt (envK (keep.zip (aa s))) (ad s) a w L β) (ab s0) ?_ ?_
 .obtain⟨pick,hp,ae⟩:=h0
  obtain⟨vs',s',β',⟨rfl,rfl⟩,_,af⟩:=zP6 (Inv:=fun vs' s' _=>vs'=aa s0/\s'=ad s0) (m:=0) hs hc ⟨_,_,pick,hp,ae,rfl,rfl⟩
  grind
 .rintro m a w ⟨s,L,β,rfl,ag,hs⟩
  refine wp_mono (hr s ag a w L β hs) fun x a' w' q=> ?_
  cases x with
  |normal=>
   obtain⟨e',σ',L',β',af,s',ah,ai,pick,hp,ae⟩:=q
   obtain⟨vs',s2,β2,⟨rfl,rfl⟩,_,aj⟩:=zP6 (Inv:=fun vs' s2 _=>vs'=aa s'/\s2=ad s') (m:=0) af hc ⟨_,_,pick,hp,ae,rfl,rfl⟩
   exact⟨ab s',ah,s',L',β2,rfl,ai,aj⟩
  |exit id=>exact q
  |goto l=>exact q
  |ret=>exact q
  |panic ch=>exact q
  |outgrown=>exact q
theorem zN {ρ:Nat->Nat} {l m:List V} (h:l=m) (hn:l.all noS=true):All2 (argS ρ) l m:=by grind[zY]
theorem wB {n N:Nat}: ∀{l:List V},l.all (ltS n)=true->All2 (argS (ren (List.range n) N)) l l
 | [],_=>trivial
 |v::l,h=>by
  simp only[Ac,A1]at h
  exact⟨zp8 h.1,wB h.2⟩
theorem zF {n N:Nat} {l m:List V} (h:l=m) (hn:l.all (ltS n)=true):All2 (argS (ren (List.range n) N)) l m:=by grind[wB]
theorem at_0 {vs:List V} {ρN:Nat} (hN:σ.length=ρN) (h:All2 (argS (ren [] ρN)) vs (keep.map e)):At 0 keep vs [] e σ:=by
 subst hN
 exact⟨[],⟨rfl,Cj,sM,om⟩,h⟩
theorem at_n (k:Nat) {vs:List V} {s:St} (hs:σ.take k=s) (hk:s.length=k) (hok:s.all (ltOb k)=true) (hn:n0<=k) (h:All2 (argS (ren (List.range k) σ.length)) vs (keep.map e)):At n0 keep vs s e σ:=by
 subst hs
 have h1:σ.take k++σ.drop k=σ:=sM
 have hp:=yu5 (n0:=n0) (s:=σ.take k) (loc:=σ.drop k) (by rw[hk];exact hok) (by rw[hk];exact hn)
 rw[h1,hk]at hp
 exact⟨_,hp,h⟩
theorem zK6 (pick:List Nat) {vs:List V} {s:St} (ab:pick.Nodup) (hn:n0=0) (aa:All2 (fun o j=>σ[j]? =some (yS (ren pick σ.length) o)) s pick) (h:All2 (argS (ren pick σ.length)) vs (keep.map e)):At n0 keep vs s e σ:=by
 subst hn
 refine⟨pick,⟨aa.length,ab,fun i j o hi ho=> ?_,om⟩,h⟩
 obtain⟨j',ad,hr⟩:=aa.get i o ho
 grind
theorem VCalls.introV {nt:Nat} {args:List V} {R:V->St->Prop} (n0:Nat) (hf:P.funcs[f]? =some fn) (aa:fn.ntmps=nt) (ab:fn.results=rs.toArray) (hb:fn.body=some code) (h0:σ.length=n0) (ad:args.length<=nt)
  (h: ∀c:Ctx,c.σ0.length=n0->c.β0.length=c.σ0.length->wVW P c nt code (retQ P rs n0 R) fx fx (envA 0 args) σ):VCalls P f args σ R:=VCalls.introW n0 hf aa ab hb h0 ad h
theorem zx7 (t:Nat) (hn:nt<=100000) (hy:wVW P c nt y Q fx fx (upd e (100000+t) (.tup [])) σ):wVW P c nt y Q fx fx e σ:=by
 intro a w L β hs
 refine hy a w L β ⟨hs.mem,hs.size,hs.defs,fun k=> ?_⟩
 simp only[upd]
 split
 .rename_i hk
  subst hk
  refine⟨[], ?_,tV⟩
  have: ¬(100000+t<a.tmps.size):=by rw[hs.size];omega
  simp[Array.getD,this,undef]
 .exact hs.env k
theorem zq6 (id s:Nat) (rows:List (List V)) (hσ:σ[id]? =some (.lst rows s)) (hp:wE rows=true) (hy:wVW P c nt y Q fx fx (fun t=>frzS id rows (e t)) (zm9 id rows σ)):wVW P c nt y Q fx fx e σ:=by
 intro a w L β hs
 obtain⟨h1,h2,h3,h4⟩:=xc4 hs.mem hσ hp
 exact hy a w _ β ⟨h1,hs.size,hs.defs,fun t=>h4 _ _ (hs.env t)⟩
theorem xH1 {args ab:List V} {v:V} {σ1:St} (hc:Pure P f args' v) (hb:wL P f=true) (hf:Frz (args++caps) σ ab σ1)
  (aa:All2 (argS (ren [] σ1.length)) args' ab) (ad:yI5 v=true) (hk:KV v σ):wVC P c (.fn f caps) args σ KV fx:=
 VC.view hc hb hf aa (by grind) (by grind)
attribute [go_sem] frzS frzA frzC frzK zR5 zm9
attribute [go_sem] D7 List.zip_nil_left List.zip_nil_right
theorem iV {nt:Nat} {args:List V} {R:V->St->Prop} (n0:Nat) (hf:P.funcs[f]? =some fn) (aa:fn.ntmps=nt) (ab:fn.results=rs.toArray)
  (h: ∀c:Ctx,c.σ0.length=n0->c.β0.length=c.σ0.length->wVW P c nt code (retQ P rs n0 R) fx fx (envA 0 args) σ) (hb:fn.body=some code:=by rfl) (h0:σ.length=n0:=by rfl) (ad:args.length<=nt:=by exact Ca rfl):VCalls P f args σ R:=(by simp_all[VCalls.introV])
theorem iW {nt:Nat} {args:List V} {R:V->St->Prop} (n0:Nat) (hf:P.funcs[f]? =some fn) (aa:fn.ntmps=nt) (ab:fn.results=rs.toArray)
  (h: ∀c:Ctx,c.σ0.length=n0->c.β0.length=c.σ0.length->zD0 P c nt code (retQ P rs n0 R) (envA 0 args) σ) (hb:fn.body=some code:=by rfl) (h0:σ.length=n0:=by rfl) (ad:args.length<=nt:=by exact Ca rfl):VCalls P f args σ R:=(by simp_all[VCalls.intro])
theorem aN (k:Nat) {vs:List V} {s:St} (hok:s.all (ltOb k)=true) (hs:σ.take k=s:=by simp[go_sem]) (hk:s.length=k:=by rfl) (hn:n0<=k:=by omega) (h:vs=keep.map e:=by simp[go_sem]) (hv:vs.all (ltS k)=true:=by rfl):At n0 keep vs s e σ:=(by grind[at_n,zF])
theorem aM (k:Nat) {vs:List V} {s:St} (hok:s.all (ltOb k)=true) (h:All2 (argS (ren (List.range k) σ.length)) vs (keep.map e)) (hs:σ.take k=s:=by simp[go_sem]) (hk:s.length=k:=by rfl) (hn:n0<=k:=by omega):At n0 keep vs s e σ:=(by grind[at_n])
theorem aO {vs:List V} (h:vs=keep.map e:=by simp[go_sem]) (hv:vs.all noS=true:=by rfl):At 0 keep vs [] e σ:=at_0 rfl (zN h hv)
theorem pC {args:List V} {v:V} (hc:Pure P f args' v) (hk:KV v σ) (aa:All2 (argS (ren [] σ.length)) args' (args++caps):=by first|exact zY rfl|exact⟨zL,zY rfl⟩|exact⟨zL,zL,zY rfl⟩|exact⟨zC rfl,zL,zY rfl⟩|exact⟨zL,zL,zL,zY rfl⟩|exact⟨zL,zC rfl,zL,zY rfl⟩|exact⟨zC rfl,zL,zL,zY rfl⟩|exact⟨zC rfl,zC rfl,zL,zY rfl⟩|exact⟨zL,zL,zL,zL,zY rfl⟩|exact⟨zL,zL,zC rfl,zL,zY rfl⟩|exact⟨zL,zC rfl,zL,zL,zY rfl⟩|exact⟨zL,zC rfl,zC rfl,zL,zY rfl⟩|exact⟨zC rfl,zL,zL,zL,zY rfl⟩|exact⟨zC rfl,zL,zC rfl,zL,zY rfl⟩|exact⟨zC rfl,zC rfl,zL,zL,zY rfl⟩|exact⟨zC rfl,zC rfl,zC rfl,zL,zY rfl⟩)
  (hb:wL P f=true:=by kernel_rfl) (hn:noS v=true:=by rfl):wVC P c (.fn f caps) args σ KV fx:=(by grind[zM])
theorem pD {n0:Kp} {args:List V} {v:V} (hc:Pure P f args' v) (hk:KV v σ) (aa: ∀N,All2 (argS (ren [] N)) args' (args++caps):=by first|exact fun _=>zY rfl|exact fun _=>⟨zL,zY rfl⟩|exact fun _=>⟨zL,zL,zY rfl⟩|exact fun _=>⟨zC rfl,zL,zY rfl⟩|exact fun _=>⟨zL,zL,zL,zY rfl⟩|exact fun _=>⟨zL,zC rfl,zL,zY rfl⟩|exact fun _=>⟨zC rfl,zL,zL,zY rfl⟩|exact fun _=>⟨zC rfl,zC rfl,zL,zY rfl⟩|exact fun _=>⟨zL,zL,zL,zL,zY rfl⟩|exact fun _=>⟨zL,zL,zC rfl,zL,zY rfl⟩|exact fun _=>⟨zL,zC rfl,zL,zL,zY rfl⟩|exact fun _=>⟨zL,zC rfl,zC rfl,zL,zY rfl⟩|exact fun _=>⟨zC rfl,zL,zL,zL,zY rfl⟩|exact fun _=>⟨zC rfl,zL,zC rfl,zL,zY rfl⟩|exact fun _=>⟨zC rfl,zC rfl,zL,zL,zY rfl⟩|exact fun _=>⟨zC rfl,zC rfl,zC rfl,zL,zY rfl⟩)
  (hb:wL P f=true:=by kernel_rfl) (hn:noS v=true:=by rfl):wVD P c n0 0 (.fn f caps) args σ KV fx:=(by grind[zi5])
theorem wR {R:V->St->Prop} {v r:V} (hr:argS (ren [] σ.length) r v:=by exact zC rfl) (hR:R r []:=by exact⟨rfl,rfl⟩):wret (some v) 0 R σ:=xP hr hR
end
end Go.Vx
