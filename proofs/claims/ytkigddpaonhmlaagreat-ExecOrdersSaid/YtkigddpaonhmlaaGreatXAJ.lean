/-
  Returns, loops and calls in their everyday forms.
  No condition: a library text; nothing of the program is named.
-/
import Derived.Test.YtkigddpaonhmlaaGreatXAI
set_option maxHeartbeats 8000000
namespace Go.Vx
open Go
section
variable {P:Program} {c:Ctx} {nt:Nat} {e:Env} {σ:St} {a:Act} {w:World} {L:Nat->Nat} {β:List Value}
def envA:Nat->List V->Env
 |_,[]=>env0
 |i,v::vs=>upd (envA (i+1) vs) i v
theorem yb3: ∀(vs:List V) (i t:Nat),envA i vs (i+t)=vs.getD t .u
 | [],_,_=>by simp[envA,env0]
 |v::vs,i,0=>by simp[envA,upd]
 |v::vs,i,t+1=>by
  simp only[envA,upd]
  rw[if_neg (by omega)]
  have:=yb3 vs (i+1) t
  rw[show i+(t+1)=i+1+t by omega,this]
  simp
def yq8 (P:Program) (e:Env) (σ:St):ResultVar->Option V
 | .tmp t=>some (e t)
 | .cell t T=>(match zg9 P T σ (e t)with| .ok v=>some v|_=>none)
def zM6 (P:Program) (e:Env) (σ:St):List ResultVar->Option (List V)
 | []=>some []
 |r::rs=>(match yq8 P e σ r,zM6 P e σ rs with|some v,some vs=>if wC v=true then some (v::vs)else none|_,_=>none)
def retV (P:Program) (rs:List ResultVar) (e:Env) (σ:St):Option V:=
 match rs with
 | [r]=>yq8 P e σ r
 |rs=>(zM6 P e σ rs).map .tup
def resS (a:Act):ResultVar->Sem Value
 | .tmp t=>pure (a.tmps.getD t undef)
 | .cell t T=>do loadVar T (<-asAddr (a.tmps.getD t undef))
theorem yQ7 (fn:Func) (a:Act):results fn a.tmps=(do let vs<-fn.results.mapM (resS a);pure (if h:vs.size=1 then vs[0]else .tuple vs)):=by
 unfold results
 rfl
theorem xw1 (h:Sim c nt e σ a w L β) {r:ResultVar} {v:V} (hv:yq8 P e σ r=some v):
  ∃x,(resS a r).run P w= .ok x w/\RdS w L σ β v x:=by
 cases r with
 |tmp t=>
  simp only[yq8,Option.some.injEq]at hv
  subst hv
  exact⟨_,rfl,h.env t⟩
 |cell t T=>
  simp only[yq8]at hv
  split at hv
  .rename_i v' hl
   simp only[Option.some.injEq]at hv
   subst hv
   obtain⟨bl,off,z,hy,hz,r⟩:=yF3 (P:=P) T h.mem (h.env t) hl
   exact⟨z,by simp only[resS,Sem.run_bind,hy,asAddr,Sem.run_pure,Result.andThen_ok,hz],r⟩
  .cases hv
theorem yq7 (h:Sim c nt e σ a w L β): ∀(rs:List ResultVar) (vs:List V),zM6 P e σ rs=some vs->
  ∃xs:List Value,(rs.mapM (resS a)).run P w= .ok xs w/\All2 (RdA w L σ β) vs xs/\xs.length=rs.length
 | [],vs,hv=>by
  simp only[zM6,Option.some.injEq]at hv
  subst hv
  exact⟨[],rfl,trivial,rfl⟩
 |r::rs,vs,hv=>by
  simp only[zM6]at hv
  split at hv
  .rename_i v vs' h1 h2
   split at hv
   .rename_i hh
    simp only[Option.some.injEq]at hv
    subst hv
    obtain⟨x,hx,hr⟩:=xw1 (P:=P) h h1
    obtain⟨xs,hxs,hrs,hl⟩:=yq7 h rs vs' h2
    refine⟨x::xs, ?_,⟨yq5 hr hh,hrs⟩,by simp[hl]⟩
    rw[List.mapM_cons]
    simp only[Sem.run_bind,hx,Result.andThen_ok,hxs,Sem.run_pure]
   .cases hv
  .cases hv
theorem xH1 {fn:Func} (h:Sim c nt e σ a w L β) {v:V} (hv:retV P fn.results.toList e σ=some v): ∃x,(results fn a.tmps).run P w= .ok x w/\RdS w L σ β v x:=by
 have hmap: ∀xs:List Value,(fn.results.toList.mapM (resS a)).run P w= .ok xs w->
   (results fn a.tmps).run P w= .ok (if hs:xs.toArray.size=1 then xs.toArray[0]else .tuple xs.toArray) w:=by
  intro xs hx
  rw[yQ7,Array.mapM_eq_mapM_toList]
  simp only[Sem.run_bind,Sem.run_map,hx,Result.andThen_ok,Sem.run_pure]
 unfold retV at hv
 split at hv
 .rename_i r hr
  obtain⟨x,hx,hrd⟩:=xw1 (P:=P) h hv
  refine⟨x, ?_,hrd⟩
  have:=hmap [x] (by rw[hr,List.mapM_cons];simp only[Sem.run_bind,hx,Result.andThen_ok,List.mapM_nil,Sem.run_pure])
  simpa using this
 .rename_i rs hne
  cases ha:zM6 P e σ fn.results.toList with
  |none=>rw[ha]at hv;cases hv
  |some vs=>
   rw[ha]at hv
   simp only[B3,Option.some.injEq]at hv
   subst hv
   obtain⟨xs,hxs,hall,hl⟩:=yq7 (P:=P) h _ _ ha
   refine⟨.tuple xs.toArray, ?_,xs,rfl,hall⟩
   have hn: ¬xs.toArray.size=1:=by
    intro q
    simp only[List.size_toArray]at q
    rw[hl]at q
    obtain⟨r,hr⟩:=List.length_eq_one_iff.1 q
    exact hne r hr
   have:=hmap xs hxs
   rw[dif_neg hn]at this
   exact this
def VRet (n0:Nat) (R:V->St->Prop) (v:V) (σ:St):Prop:=
 ∃v1 σ1 pick σ' r,Frz [v] σ [v1] σ1/\Picks n0 pick σ1 σ'/\argS (ren pick σ1.length) r v1/\R r σ'
def retQ (P:Program) (rs:List ResultVar) (n0:Nat) (R:V->St->Prop):Exit->Env->St->Prop
 | .normal,e,σ| .ret,e,σ=> ∃v,retV P rs e σ=some v/\VRet n0 R v σ
 |_,_,_=>False
theorem VCalls.introW {f:FuncId} {fn:Func} {code:Code} {nt:Nat} {rs:List ResultVar} {args:List V} {σ:St} {R:V->St->Prop} (n0:Nat) (hf:P.funcs[f]? =some fn) (hnt:fn.ntmps=nt) (hrs:fn.results=rs.toArray) (hb:fn.body=some code) (h0:σ.length=n0) (hal:args.length<=nt)
  (h: ∀c:Ctx,c.σ0.length=n0->c.β0.length=c.σ0.length->VW P c nt code (retQ P rs n0 R) (envA 0 args) σ):VCalls P f args σ R:=by
 subst hnt
 subst h0
 have hrs:fn.results.toList=rs:=by rw[hrs]
 subst hrs
 intro w L β vals hm ha
 have hlen:=ha.length
 refine calls_of_wp hf hb ?_
 have hsim:Sim (entry w L σ β) fn.ntmps (envA 0 args) σ {tmps:=vals.toArray++Array.replicate (fn.ntmps - vals.toArray.size) undef,defers:= []} w L β:=by
  refine⟨hm,by simp;omega,rfl,fun t=> ?_⟩
  have e1:=yb3 args 0 t
  rw[Aa]at e1
  rw[e1]
  by_cases ht:t<args.length
  .obtain⟨x,hx,r⟩:=ha.get t _ (A0 ht)
   have:(vals.toArray++Array.replicate (fn.ntmps - vals.toArray.size) undef).getD t undef=x:=by
    rw[Array.getD_eq_getD_getElem?,Dm (by simp;omega)]
    simp[hx]
   rw[this,A5,A0 ht]
   exact r
  .rw[A5,Bc (by omega)]
   trivial
 refine wp_mono (h (entry w L σ β) rfl hm.len _ w L β hsim) fun x a' w' q=> ?_
 have fin: ∀{x:Exit},(x= .normal∨x= .ret)->Lift (entry w L σ β) fn.ntmps (retQ P fn.results.toList σ.length R) x a' w'->
   a'.defers= []/\ ∃v,(results fn a'.tmps).run P w'= .ok v w'/\ ∃v' r L' σ' β',Ending.returned v=Ending.returned v'/\R r σ'/\σ.length<=σ'.length/\Mem (entry w L σ β) w' L' σ' β'/\RdS w' L' σ' β' r v':=by
  intro x hx q
  have hq: ∃e' σ' L' β',Sim (entry w L σ β) fn.ntmps e' σ' a' w' L' β'/\ ∃v,retV P fn.results.toList e' σ'=some v/\VRet σ.length R v σ':=by
   rcases hx with rfl|rfl<;>exact q
  obtain⟨e',σ0,L0',β1,hs,v,hv,v1,σ1,pick,σ',r,hfz,hp,har,hR⟩:=hq
  obtain⟨x,hx,hrd0⟩:=xH1 (P:=P) hs hv
  obtain⟨L',β2,hmem,_,_,hrd,_⟩:=hfz.ok hs.mem (xs:= [x]) ⟨hrd0,trivial⟩
  refine⟨hs.defs,x,hx,x,r,L',σ',_,rfl,hR, ?_,hmem.pick hp hm.len,zv9 (hp.bak hmem.len) har hrd⟩
  rw[hp.len]
  rcases Cf pick.length σ.length with hlt|hge
  .have:=(A1.1 (hp.id pick.length hlt)).1
   omega
  .exact hge
 cases x with
 |normal=>exact fin (.inl rfl) q
 |ret=>exact fin (.inr rfl) q
 |exit id=>obtain⟨e',σ',L',β',hs,hq⟩:=q;exact hq.elim
 |goto l=>exact q.elim
 |panic ch=>exact q.elim
 |outgrown=>exact q.elim
theorem VCalls.intro {f:FuncId} {fn:Func} {code:Code} {nt:Nat} {rs:List ResultVar} {args:List V} {σ:St} {R:V->St->Prop} (n0:Nat) (hf:P.funcs[f]? =some fn) (hnt:fn.ntmps=nt) (hrs:fn.results=rs.toArray) (hb:fn.body=some code) (h0:σ.length=n0) (hal:args.length<=nt)
  (h: ∀c:Ctx,c.σ0.length=n0->c.β0.length=c.σ0.length->zy0 P c nt code (retQ P rs n0 R) (envA 0 args) σ):VCalls P f args σ R:=
 VCalls.introW n0 hf hnt hrs hb h0 hal fun c h1 h2=>zf4 code _ _ _ (h c h1 h2)
theorem zX3 {code:Code} {Q:Exit->Act->World->Prop} (I:Nat->Act->World->Prop) (n:Nat) (h₀:I n a w)
  (round: ∀n a w,I n a w->code.wp P (Exit.then (fun a' w'=> ∃m,m<n/\I m a' w') Q) a w):(Code.loop code).wp P Q a w:=by
 intro b k cs
 have key: ∀n a w,I n a w-> ∃e a' w',Q e a' w'/\Arrives P (lone (b.at a (.code code:: .inLoop code::k)) cs w) b k cs e a' w':=by
  intro n
  induction n using Nat.strongRecOn with
  |_ n ih=>
   intro a w hI
   obtain⟨e,a₁,w₁,hq,harr⟩:=round n a w hI b (.inLoop code::k) cs
   cases e with
   |normal=>
    obtain⟨m,hlt,hI₁⟩:=hq
    obtain⟨e₂,a₂,w₂,hq₂,harr₂⟩:=ih m hlt a₁ w₁ hI₁
    exact⟨e₂,a₂,w₂,hq₂,.of_steps (Steps.trans harr (.one step_inLoop)) harr₂⟩
   |exit id=>exact⟨_,a₁,w₁,hq,.pass (x:= .inLoop code) rfl (fun _ _=> .inl (by simp)) harr⟩
   |goto l=>exact⟨_,a₁,w₁,hq,.pass (x:= .inLoop code) rfl (fun _ _=> .inl (by simp)) harr⟩
   |ret=>exact⟨_,a₁,w₁,hq,.pass (x:= .inLoop code) rfl (fun _ _=> .inl (by simp)) harr⟩
   |panic ch=>exact⟨_,a₁,w₁,hq,.pass (x:= .inLoop code) rfl (fun _ _=> .inl (by simp)) harr⟩
   |outgrown=>exact⟨_,a₁,w₁,hq,.pass (x:= .inLoop code) rfl (fun _ _=> .inl (by simp)) harr⟩
 obtain⟨e,a',w',hq,harr⟩:=key n a w h₀
 exact⟨e,a',w',hq,.of_steps (.one step_loop) harr⟩
def envK:List (Nat×V)->Env
 | []=>env0
 |(t,v)::r=>upd (envK r) t v
def xN2 (n0:Nat) (keep:List Nat) (Inv:List V->St->Nat->Prop) (m:Nat) (e:Env) (σ:St):Prop:=
 ∃vs s pick,Picks n0 pick σ s/\All2 (argS (ren pick σ.length)) vs (keep.map e)/\Inv vs s m
theorem zM8 (h:Sim c nt e σ a w L β) (hc:c.β0.length=c.σ0.length) {keep:List Nat} {Inv:List V->St->Nat->Prop} {m:Nat} (hk:xN2 c.σ0.length keep Inv m e σ):
  ∃vs s β',Inv vs s m/\vs.length=keep.length/\Sim c nt (envK (keep.zip vs)) s a w L β':=by
 obtain⟨vs,s,pick,hp,hall,hI⟩:=hk
 have hl:=hall.length
 simp at hl
 refine⟨vs,s,_,hI,hl,h.mem.pick hp hc,h.size,h.defs,fun t=> ?_⟩
 have hb:=hp.bak h.mem.len
 clear hI
 revert hall hl
 generalize keep=kl
 intro hall hl
 induction kl generalizing vs with
 |nil=>trivial
 |cons q kl ih=>cases vs with
  |nil=>simp at hl
  |cons v vs=>
   simp only[E9,envK,upd]
   by_cases hq:t=q
   .subst hq
    rw[if_pos rfl]
    exact zv9 hb hall.1 (h.env t)
   .rw[if_neg hq]
    exact ih vs hall.2 (by simpa using hl)
end
def Fx.{v} {α:Sort v} (_:α):Type:=Unit
def fx.{v} {α:Sort v} {a:α}:Fx a:=()
abbrev KT:=Env->St->Prop
abbrev QT:=Exit->Env->St->Prop
def zr8 (P:Program) (c:Ctx) (nt:Nat) (code:Code) (Q:QT) (_:Fx code) (_:Fx Q) (e:Env) (σ:St):Prop:=zy0 P c nt code Q e σ
def wrun (P:Program) (c:Ctx) (nt:Nat) (ops l:List Oper) (K:KT) (_:Fx ops) (_:Fx l) (_:Fx K) (e:Env) (σ:St):Prop:=vrun P c nt ops l K e σ
def wop (P:Program) (c:Ctx) (nt:Nat) (d:Option Tmp) (op:Op) (K:KT) (_:Fx op) (_:Fx K) (e:Env) (σ:St):Prop:=vop P c nt d op K e σ
def wfin (nt:Nat) (d:Option Tmp) (r:R) (K:KT) (_:Fx K) (e:Env) (σ:St):Prop:=vfin nt d r K e σ
def wput (nt:Nat) (d:Option Tmp) (v:V) (K:KT) (_:Fx K) (e:Env) (σ:St):Prop:=vput nt d v K e σ
def zH8 (p q:Prop) (_:Fx q):Prop:=xb8 p q
def ys6 (x:V) (A B:Prop) (_:Fx A) (_:Fx B):Prop:=yK8 x A B
def wgrd (x:V) (want:Bool) (A B:Prop) (_:Fx A) (_:Fx B):Prop:=vgrd x want A B
def wgdo (t:Option Tmp) (want:Bool) (e:Env) (A B:Prop) (_:Fx A) (_:Fx B):Prop:=match t with|some t=>vgrd (e t) want A B|none=>False
def wdst (ops:List Oper) (_:Fx ops) (j:Nat):Option Tmp:=gdst ops j
def zX4 (K:KT) (Q:QT) (_:Fx K) (_:Fx Q) (x:Exit) (e:Env) (σ:St):Prop:=xy2 K Q x e σ
def wblk (id:Nat) (Q:QT) (_:Fx Q) (x:Exit) (e:Env) (σ:St):Prop:=blkV id Q x e σ
def wVW (P:Program) (c:Ctx) (nt:Nat) (code:Code) (Q:QT) (_:Fx code) (_:Fx Q) (e:Env) (σ:St):Prop:=VW P c nt code Q e σ
def wVC (P:Program) (c:Ctx) (fv:V) (as:List V) (σ:St) (K:V->St->Prop) (_:Fx K):Prop:=VC P c fv as σ K
def xA4 (nt:Nat) (d:Option Tmp) (K:KT) (_:Fx K) (e:Env) (v:V) (σ:St):Prop:=vput nt d v K e σ
section
variable {P:Program} {c:Ctx} {nt:Nat} {e:Env} {σ:St} {K:KT} {Q:QT} {d:Option Tmp}
theorem zN {code:Code} (h:zr8 P c nt code Q fx fx e σ):zy0 P c nt code Q e σ:=h
@[go_sem] theorem wcode_skip:zr8 P c nt .skip Q fx fx e σ=Q .normal e σ:=id rfl
@[go_sem] theorem wcode_seq {x y:Code}:zr8 P c nt (.seq x y) Q fx fx e σ=zr8 P c nt x (zX4 (zr8 P c nt y Q fx fx) Q fx fx) fx fx e σ:=id rfl
@[go_sem] theorem wcode_cond {x:Operand} {t f:Code}:zr8 P c nt (.cond x t f) Q fx fx e σ=ys6 (zF e x) (zr8 P c nt t Q fx fx e σ) (zr8 P c nt f Q fx fx e σ) fx fx:=id rfl
@[go_sem] theorem wcode_block {i:Nat} {b:Code}:zr8 P c nt (.block i b) Q fx fx e σ=zr8 P c nt b (wblk i Q fx) fx fx e σ:=id rfl
@[go_sem] theorem wcode_exit {i:Nat}:zr8 P c nt (.exit i) Q fx fx e σ=Q (.exit i) e σ:=id rfl
@[go_sem] theorem wcode_ret:zr8 P c nt .ret Q fx fx e σ=Q .ret e σ:=id rfl
@[go_sem] theorem wcode_region {i:Nat} {l:List Oper}:zr8 P c nt (.region i l.toArray false) Q fx fx e σ=wrun P c nt l l (Q .normal) fx fx fx e σ:=id rfl
@[go_sem] theorem wcode_draw {i:Nat} {ops:Array Oper}:zr8 P c nt (.region i ops true) Q fx fx e σ=wVW P c nt (.region i ops true) Q fx fx e σ:=id rfl
@[go_sem] theorem wcode_loop {b:Code}:zr8 P c nt (.loop b) Q fx fx e σ=wVW P c nt (.loop b) Q fx fx e σ:=id rfl
@[go_sem] theorem wthen_normal:zX4 K Q fx fx .normal e σ=K e σ:=id rfl
@[go_sem] theorem wthen_ret:zX4 K Q fx fx .ret e σ=Q .ret e σ:=id rfl
@[go_sem] theorem wthen_exit {i:Nat}:zX4 K Q fx fx (.exit i) e σ=Q (.exit i) e σ:=id rfl
@[go_sem] theorem wblk_normal {i:Nat}:wblk i Q fx .normal e σ=Q .normal e σ:=id rfl
@[go_sem] theorem wblk_ret {i:Nat}:wblk i Q fx .ret e σ=Q .ret e σ:=id rfl
@[go_sem] theorem wblk_same {i:Nat}:wblk i Q fx (.exit i) e σ=Q .normal e σ:=by show(if i=i then _ else _)=_;rw[if_pos rfl]
@[go_sem] theorem wblk_exit {i j:Nat}:wblk i Q fx (.exit j) e σ=if j=i then Q .normal e σ else Q (.exit j) e σ:=id rfl
theorem yV {op:Op} (h1:wV P e σ op=evOp P e σ op) (h2:vop P c nt d op K e σ=vfin nt d (xL P d e σ op) K e σ):wop P c nt d op K fx fx e σ=wfin nt d (evOp P e σ op) K fx e σ:=by
 unfold wop wfin
 rw[h2]
 unfold xL
 rw[h1]
 simp
def wh (b:Bool) (x y:R):R:=if b=true then x else y
@[go_sem] theorem wh_t {x y:R}:wh true x y=x:=rfl
@[go_sem] theorem wh_f {x y:R}:wh false x y=y:=rfl
def yv3:V->Bool
 | .tup []=>true
 |_=>false
@[go_sem] theorem hinted_some {t:Nat}:zd1 e (some t)=yv3 (e (100000+t)):=by
 unfold zd1 yv3
 rfl
@[go_sem] theorem hinted_none:zd1 e none=false:=rfl
@[go_sem] theorem isMark_t:yv3 (.tup [])=true:=rfl
@[go_sem] theorem isMark_u:yv3 .u=false:=rfl
@[go_sem] theorem env0_u {t:Nat}:env0 t= .u:=rfl
@[go_sem] theorem wrun_nil {ops:List Oper}:wrun P c nt ops [] K fx fx fx e σ=K e σ:=id rfl
@[go_sem] theorem wrun_cons {ops rest:List Oper} {op:Op} {ty:TypeId} {pos:String} {aft:Array Edge}:wrun P c nt ops (⟨d,op,ty,pos,aft,none⟩::rest) K fx fx fx e σ=wop P c nt d op (wrun P c nt ops rest K fx fx fx) fx fx e σ:=id rfl
@[go_sem] theorem wrun_guard {ops rest:List Oper} {op:Op} {ty:TypeId} {pos:String} {aft:Array Edge} {j:Nat} {want:Bool}:wrun P c nt ops (⟨d,op,ty,pos,aft,some (j,want)⟩::rest) K fx fx fx e σ=
  wgdo (wdst ops fx j) want e (wop P c nt d op (wrun P c nt ops rest K fx fx fx) fx fx e σ) (wput nt d (.tup []) (wrun P c nt ops rest K fx fx fx) fx e σ) fx fx:=id rfl
@[go_sem] theorem wgdo_some {t:Tmp} {want:Bool} {A B:Prop}:wgdo (some t) want e A B fx fx=wgrd (e t) want A B fx fx:=id rfl
@[go_sem] theorem wdst_zero {d:Option Tmp} {op:Op} {ty:TypeId} {pos:String} {aft:Array Edge} {g:Option (Nat×Bool)} {l:List Oper}:wdst (⟨d,op,ty,pos,aft,g⟩::l) fx 0=d:=id rfl
@[go_sem] theorem wdst_succ {o:Oper} {l:List Oper} {n:Nat}:wdst (o::l) fx (n+1)=wdst l fx n:=by simp[wdst,gdst]
@[go_sem] theorem wgrd_tt {A B:Prop}:wgrd (.bool true) true A B fx fx=A:=by simp[wgrd,vgrd]
@[go_sem] theorem wgrd_ff {A B:Prop}:wgrd (.bool false) false A B fx fx=A:=by simp[wgrd,vgrd]
@[go_sem] theorem wgrd_tf {A B:Prop}:wgrd (.bool true) false A B fx fx=B:=by simp[wgrd,vgrd]
@[go_sem] theorem wgrd_ft {A B:Prop}:wgrd (.bool false) true A B fx fx=B:=by simp[wgrd,vgrd]
@[go_sem] theorem wgrd_no {want:Bool} {A B:Prop}:wgrd (.tup []) want A B fx fx=B:=by simp[wgrd,vgrd]
@[go_sem] theorem wcond_t {A B:Prop}:ys6 (.bool true) A B fx fx=A:=by simp[ys6,yK8]
@[go_sem] theorem wcond_f {A B:Prop}:ys6 (.bool false) A B fx fx=B:=by simp[ys6,yK8]
theorem zT {b:Bool} {A B:Prop} (ha:b=true->A) (hb:b=false->B):ys6 (.bool b) A B fx fx:=⟨ha,hb⟩
theorem yZ {b want:Bool} {A B:Prop} (ha:b=want->A) (hb:b=(!want)->B):wgrd (.bool b) want A B fx fx:=⟨ha,fun h=>hb (by cases b<;>cases want<;>simp_all)⟩
theorem zJ {p q:Prop} (hp:p) (hq:q):zH8 p q fx:=⟨hp,hq⟩
@[go_sem] theorem wneed_t {q:Prop}:zH8 True q fx=q:=by simp[zH8,xb8]
@[go_sem] theorem wfin_ok {v:V}:wfin nt d (.ok v) K fx e σ=wput nt d v K fx e σ:=id rfl
@[go_sem] theorem wfin_need {p:Prop} {v:V}:wfin nt d (.need p v) K fx e σ=zH8 p (wput nt d v K fx e σ) fx:=id rfl
@[go_sem] theorem wfin_st {v:V} {s:St}:wfin nt d (.st v s) K fx e σ=wput nt d v K fx e s:=id rfl
@[go_sem] theorem wfin_needst {p:Prop} {v:V} {s:St}:wfin nt d (.needst p v s) K fx e σ=zH8 p (wput nt d v K fx e s) fx:=id rfl
@[go_sem] theorem wput_some {t:Nat} {v:V}:wput nt (some t) v K fx e σ=(t<nt/\K (upd e t v) σ):=id rfl
@[go_sem] theorem wput_none {v:V}:wput nt none v K fx e σ=K e σ:=id rfl
@[go_sem] theorem wputK_eq {v:V}:xA4 nt d K fx e v σ=wput nt d v K fx e σ:=id rfl
@[go_sem] theorem wop_move {x:Operand}:wop P c nt d (.move x) K fx fx e σ=wput nt d (zF e x) K fx e σ:=(yV rfl rfl).trans rfl
@[go_sem] theorem wop_assign {x:Operand}:wop P c nt d (.assign x) K fx fx e σ=wput nt d (zF e x) K fx e σ:=(yV rfl rfl).trans rfl
@[go_sem] theorem wop_pick {x y z:Operand}:wop P c nt d (.pick x y z) K fx fx e σ=wfin nt d (zF6 (zF e x) (zF e y) (zF e z)) K fx e σ:=(yV rfl rfl).trans rfl
@[go_sem] theorem wop_alloc {t:TypeId}:wop P c nt d (.alloc t) K fx fx e σ=wfin nt d (zk4 P t σ) K fx e σ:=(yV rfl rfl).trans rfl
@[go_sem] theorem wop_box {t:TypeId} {x:Operand}:wop P c nt d (.box t x) K fx fx e σ=wfin nt d (zN9 σ (zF e x)) K fx e σ:=(yV rfl rfl).trans rfl
@[go_sem] theorem wop_build {t:TypeId} {l:List (Nat×Operand)}:wop P c nt d (.build t l.toArray) K fx fx e σ=wfin nt d (zw2 (za1 P t) (plcT P t) (l.map fun p=>(p.1,zF e p.2))) K fx e σ:=(yV rfl rfl).trans rfl
@[go_sem] theorem wop_buildSlice {t:TypeId} {n:Nat} {l:List (Nat×Operand)}:wop P c nt d (.buildSlice t n l.toArray) K fx fx e σ=wfin nt d (wh (zd1 e d) (wT ((elT P t).map (·.1)) n σ (l.map fun p=>(p.1,zF e p.2))) (za7 ((elT P t).map (·.1)) n (l.map fun p=>(p.1,zF e p.2)))) K fx e σ:=id rfl
@[go_sem] theorem wop_load {t:TypeId} {x:Operand}:wop P c nt d (.load t x) K fx fx e σ=wfin nt d (zg9 P t σ (zF e x)) K fx e σ:=(yV rfl rfl).trans rfl
@[go_sem] theorem wop_store {t:TypeId} {x y:Operand}:wop P c nt d (.store t x y) K fx fx e σ=wfin nt d (zs5 P t σ (zF e x) (zF e y)) K fx e σ:=(yV rfl rfl).trans rfl
@[go_sem] theorem wop_nil {x:Operand}:wop P c nt d (.nilCheck x) K fx fx e σ=wfin nt d (zV7 (zF e x)) K fx e σ:=(yV rfl rfl).trans rfl
@[go_sem] theorem wop_bin {op:BinOp} {t t':TypeId} {x y:Operand}:wop P c nt d (.binOp op t x y t') K fx fx e σ=wfin nt d (wh (zg2 y) (zs4 op (eqK P t) (zF e x)) (wh (zf0 y) (zp4 op (zh4 P t) (zF e x)) (zr5 op (eqK P t) (eqS P t) (zF e x) (zF e y)))) K fx e σ:=(yV rfl rfl).trans rfl
@[go_sem] theorem isNilOp_tmp {t:Nat}:zg2 (.tmp t)=false:=rfl
@[go_sem] theorem isNilOp_nil:zg2 (.const (.slice none 0 0))=true:=rfl
@[go_sem] theorem isNilOp_int {k:IntKind} {n:Int}:zg2 (.const (.int k n))=false:=rfl
@[go_sem] theorem isNilOp_bool {b:Bool}:zg2 (.const (.bool b))=false:=rfl
@[go_sem] theorem isNilOp_str {b:ByteArray}:zg2 (.const (.string b))=false:=rfl
@[go_sem] theorem isNilOp_ptr {a:Option Addr}:zg2 (.const (.pointer a))=false:=rfl
@[go_sem] theorem isNilOp_func {f:FuncId}:zg2 (.func f)=false:=rfl
@[go_sem] theorem isNilOp_map {m:Option Nat}:zg2 (.const (.map m))=false:=rfl
@[go_sem] theorem isNilMap_tmp {t:Nat}:zf0 (.tmp t)=false:=rfl
@[go_sem] theorem isNilMap_nil:zf0 (.const (.map none))=true:=rfl
@[go_sem] theorem isNilMap_int {k:IntKind} {n:Int}:zf0 (.const (.int k n))=false:=rfl
@[go_sem] theorem isNilMap_bool {b:Bool}:zf0 (.const (.bool b))=false:=rfl
@[go_sem] theorem isNilMap_str {b:ByteArray}:zf0 (.const (.string b))=false:=rfl
@[go_sem] theorem isNilMap_ptr {a:Option Addr}:zf0 (.const (.pointer a))=false:=rfl
@[go_sem] theorem isNilMap_func {f:FuncId}:zf0 (.func f)=false:=rfl
def xM7 (l:List (V×St)) (A:V->St->Prop) (_:Fx A):Prop:= ∀p∈l,A p.1 p.2
@[go_sem] theorem xz9 {l:List (V×St)}:wfin nt d (.any l) K fx e σ=xM7 l (fun v s=>wput nt d v K fx e s) fx:=id rfl
theorem xJ8 {l:List (V×St)} {A:V->St->Prop} (h: ∀p∈l,A p.1 p.2):xM7 l A fx:=h
@[go_sem] theorem wop_makeMap {t:TypeId} {r:Option Operand}:wop P c nt d (.makeMap t r) K fx fx e σ=wfin nt d (zl5 σ (zh4 P t) (r.map (zF e))) K fx e σ:=(yV rfl rfl).trans rfl
@[go_sem] theorem wop_lookup {t:TypeId} {x k:Operand} {ok:Bool}:wop P c nt d (.lookup t x k ok) K fx fx e σ=wfin nt d (xO (mapT P t) σ (zF e x) (zF e k) ok) K fx e σ:=(yV rfl rfl).trans rfl
@[go_sem] theorem wop_mapUpdate {t:TypeId} {x k v:Operand}:wop P c nt d (.mapUpdate t x k v) K fx fx e σ=wfin nt d (xK (mapT P t) σ (zF e x) (zF e k) (zF e v)) K fx e σ:=(yV rfl rfl).trans rfl
@[go_sem] theorem wop_range {t:TypeId} {x:Operand}:wop P c nt d (.range t x) K fx fx e σ=wfin nt d (zw5 (zh4 P t) σ (zF e x)) K fx e σ:=(yV rfl rfl).trans rfl
@[go_sem] theorem wop_next {x:Operand}:wop P c nt d (.next x false) K fx fx e σ=wfin nt d (wh (zd1 e d) (zh0 true σ (zF e x)) (zh0 false σ (zF e x))) K fx e σ:=id rfl
@[go_sem] theorem wop_delete {t t':TypeId} {x k:Operand}:wop P c nt d (.call ⟨.builtin .delete, #[x,k], #[t,t']⟩) K fx fx e σ=wfin nt d (zp3 (mapT P t) σ (zF e x) (zF e k)) K fx e σ:=(yV rfl rfl).trans rfl
attribute [go_sem] zH2 zv4 zl5 xO xK zw5 zh0 zp3 zp4 zm4 zh3 zv3 zN6 zG2
@[go_sem] theorem wop_un {op:UnOp} {t:TypeId} {x:Operand}:wop P c nt d (.unOp op t x) K fx fx e σ=wfin nt d (evUn op (zF e x)) K fx e σ:=(yV rfl rfl).trans rfl
@[go_sem] theorem wop_conv {t t':TypeId} {x:Operand}:wop P c nt d (.convert t t' x) K fx fx e σ=wfin nt d (wh (zd1 e d) (zw3 (kdT P t) (kdT P t') σ (zF e x)) (zB7 (kdT P t) (kdT P t') (zF e x))) K fx e σ:=id rfl
@[go_sem] theorem wop_slice {t:TypeId} {x:Operand} {hi:Option Operand}:wop P c nt d (.slice t x none hi none) K fx fx e σ=wfin nt d (zm2 (arrT P t) (lenT P t) ((elT P t).map (·.1)) (zF e x) none (hi.map (zF e))) K fx e σ:=(yV rfl rfl).trans rfl
@[go_sem] theorem wop_sliceH {t:TypeId} {x lo hi:Operand}:wop P c nt d (.slice t x (some lo) (some hi) none) K fx fx e σ=wfin nt d (zm2 (arrT P t) (lenT P t) ((elT P t).map (·.1)) (zF e x) (some (zF e lo)) (some (zF e hi))) K fx e σ:=(yV rfl rfl).trans rfl
@[go_sem] theorem wop_sliceL {t:TypeId} {x lo:Operand}:wop P c nt d (.slice t x (some lo) none none) K fx fx e σ=wfin nt d (wh (zd1 e d) (zp6 (lenT P t) ((elT P t).map (·.1)) σ (zF e x) (zF e lo)) (zm2 (arrT P t) (lenT P t) ((elT P t).map (·.1)) (zF e x) (some (zF e lo)) none)) K fx e σ:=id rfl
@[go_sem] theorem wop_fieldAddr {t:TypeId} {x:Operand} {f:Nat}:wop P c nt d (.fieldAddr t x f) K fx fx e σ=wfin nt d (ze3 P t (zF e x) f) K fx e σ:=(yV rfl rfl).trans rfl
@[go_sem] theorem wop_field {t:TypeId} {x:Operand} {f:Nat}:wop P c nt d (.field t x f) K fx fx e σ=wfin nt d (zw4 (fldT P t f) (zF e x)) K fx e σ:=(yV rfl rfl).trans rfl
@[go_sem] theorem wop_idxAddr {t:TypeId} {x i:Operand}:wop P c nt d (.indexAddr t x i) K fx fx e σ=wfin nt d (zi0 (slcT P t) (arrT P t) (zF e x) (zF e i)) K fx e σ:=(yV rfl rfl).trans rfl
@[go_sem] theorem wop_idx {t:TypeId} {x i:Operand}:wop P c nt d (.index t x i) K fx fx e σ=wfin nt d (zO0 (zF e x) (zF e i) (strT P t) (arrT P t)) K fx e σ:=(yV rfl rfl).trans rfl
@[go_sem] theorem wop_extract {x:Operand} {i:Nat}:wop P c nt d (.extract x i) K fx fx e σ=wfin nt d (zl4 (zF e x) i) K fx e σ:=(yV rfl rfl).trans rfl
@[go_sem] theorem wop_func {fn:Fn} {l m:List Operand}:wop P c nt d (.makeFunc fn l.toArray m.toArray) K fx fx e σ=wfin nt d (zF5 fn l.length (m.map (zF e))) K fx e σ:=(yV rfl rfl).trans rfl
@[go_sem] theorem wop_make {t:TypeId} {l m:Operand}:wop P c nt d (.makeSlice t l m) K fx fx e σ=wfin nt d (wh (zd1 e d) (zs3 (elT P t) (zelT P t) σ (zF e l) (zF e m)) (zB9 (elT P t) (zelT P t) σ (zF e l) (zF e m))) K fx e σ:=id rfl
@[go_sem] theorem wop_len {t:TypeId} {x:Operand}:wop P c nt d (.call ⟨.builtin .len, #[x], #[t]⟩) K fx fx e σ=wfin nt d (zV6 (lenT P t) (zF e x)) K fx e σ:=(yV rfl rfl).trans rfl
@[go_sem] theorem wop_clear {t:TypeId} {x:Operand}:wop P c nt d (.call ⟨.builtin .clear, #[x], #[t]⟩) K fx fx e σ=wfin nt d (zs2 ((elT P t).map (·.1)) (zelT P t) σ (zF e x)) K fx e σ:=(yV rfl rfl).trans rfl
@[go_sem] theorem wop_append {t t':TypeId} {x y:Operand}:wop P c nt d (.call ⟨.builtin .append, #[x,y], #[t,t']⟩) K fx fx e σ=wfin nt d (wh (zd1 e d) (zd9 (elT P t) (lenT P t') σ (zF e x) (zF e y)) (zg8 (elT P t) (lenT P t') σ (zF e x) (zF e y))) K fx e σ:=id rfl
@[go_sem] theorem wop_min {l:List Operand} {ts:Array TypeId}:wop P c nt d (.call ⟨.builtin .min,l.toArray,ts⟩) K fx fx e σ=wfin nt d (zz3 false (l.map (zF e))) K fx e σ:=(yV rfl rfl).trans rfl
@[go_sem] theorem wop_max {l:List Operand} {ts:Array TypeId}:wop P c nt d (.call ⟨.builtin .max,l.toArray,ts⟩) K fx fx e σ=wfin nt d (zz3 true (l.map (zF e))) K fx e σ:=(yV rfl rfl).trans rfl
@[go_sem] theorem wop_call {f:Operand} {l:List Operand} {ts:Array TypeId}:wop P c nt d (.call ⟨.value f,l.toArray,ts⟩) K fx fx e σ=wVC P c (zF e f) (l.map (zF e)) σ (xA4 nt d K fx e) fx:=id rfl
@[go_sem] theorem evalV_tmp {t:Nat}:zF e (.tmp t)=e t:=rfl
@[go_sem] theorem evalV_const {v:Value}:zF e (.const v)=zc1 v:=rfl
@[go_sem] theorem evalV_glob {g:Nat}:zF e (.global g)=yW2 g:=rfl
@[go_sem] theorem evalV_func {f:FuncId}:zF e (.func f)= .fn f []:=rfl
@[go_sem] theorem upd_get {t':Nat} {v:V} {t:Nat}:upd e t' v t=if t=t' then v else e t:=rfl
@[go_sem] theorem ofVal_bool {b:Bool}:zc1 (.bool b)= .bool b:=rfl
@[go_sem] theorem ofVal_int {k:IntKind} {n:Int}:zc1 (.int k n)= .int k n:=rfl
@[go_sem] theorem ofVal_str {s:ByteArray}:zc1 (.string s)= .str s.data.toList:=rfl
@[go_sem] theorem ofVal_nilp:zc1 (.pointer none)= .nilp:=rfl
@[go_sem] theorem ofVal_nils:zc1 (.slice none 0 0)= .sl .full []:=rfl
attribute [go_sem] zp6 zs4 yG8 lenV zF6 zV7 evUn zB7 zw3 zz3 zV6 zN9 zk4 zl4 zw4 ze3 zg9 zk5 zs5 wC xD zO0 zi0 zm2 zp5 bnd zg8 zd9 zD5 zm8 xM2 zs2 za7 wT zs3 zm3 zw2 ys3 zB9 zF5 isK zg3 dem zE7 zL0 envA envK
@[go_sem] theorem evBin_int {op:BinOp} {k:IntKind} {x y:Int} {ek:Nat} {es:Option (List Pk)}:zr5 op ek es (.int k x) (.int k y)=zL8 op k x y:=by simp[zr5]
@[go_sem] theorem evBin_str {op:BinOp} {x y:List UInt8} {ek:Nat} {es:Option (List Pk)}:zr5 op ek es (.str x) (.str y)=zM9 op x y:=rfl
@[go_sem] theorem evBin_bool {op:BinOp} {x y:Bool} {es:Option (List Pk)}:zr5 op 1 es (.bool x) (.bool y)=(match op with| .eql=> .ok (.bool (x==y))| .neq=> .ok (.bool (!(x==y)))|_=> .fail):=rfl
@[go_sem] theorem evBin_ptr {op:BinOp} {i o:Nat} {es:Option (List Pk)}:zr5 op 2 es (.ptr i o) .nilp=(match op with| .eql=> .ok (.bool false)| .neq=> .ok (.bool true)|_=> .fail):=rfl
@[go_sem] theorem evBin_nil {op:BinOp} {es:Option (List Pk)}:zr5 op 2 es .nilp .nilp=(match op with| .eql=> .ok (.bool true)| .neq=> .ok (.bool false)|_=> .fail):=rfl
@[go_sem] theorem evBin_agg {op:BinOp} {ek:Nat} {ks:List Pk} {as bs:List V}:zr5 op ek (some ks) (.agg as) (.agg bs)=(match eqVs ks as bs with|some r=>(match op with| .eql=> .ok (.bool r)| .neq=> .ok (.bool (!r))|_=> .fail)|none=> .fail):=rfl
attribute [go_sem] zL8 zM9 eqVs eqPk putCells
end
def noK:V->Bool
 | .ptr _ _| .sl (.app _) _| .agg _| .tup _| .fn _ _| .lsv _ _ _ _ _| .lsp _ _ _ _ _| .bsv _ _ _ _| .mp _| .ifc _ _=>false
 |_=>true
def noC:V->Bool
 | .fn _ caps=>caps.all noK
 | .ifc _ vs=>vs.all noK
 |v=>noK v
def noA:V->Bool
 | .agg cs=>cs.all noC
 |v=>noC v
def noS:V->Bool
 | .tup vs=>vs.all noA
 |v=>noA v
def ltK (n:Nat):V->Bool
 | .ptr id _=>decide (id<n)
 | .sl (.app id) _=>decide (id<n)
 | .lsv id _ _ _ _=>decide (id<n)
 | .lsp id _ _ _ _=>decide (id<n)
 | .bsv id _ _ _=>decide (id<n)
 | .mp id=>decide (id<n)
 | .agg _| .tup _| .fn _ _| .ifc _ _=>false
 |_=>true
def ltC (n:Nat):V->Bool
 | .fn _ caps=>caps.all (ltK n)
 | .ifc _ vs=>vs.all (ltK n)
 |v=>ltK n v
def ltA (n:Nat):V->Bool
 | .agg cs=>cs.all (ltC n)
 |v=>ltC n v
def ltS (n:Nat):V->Bool
 | .tup vs=>vs.all (ltA n)
 |v=>ltA n v
def ltOb (n:Nat):Ob->Bool
 | .box cells=>cells.all (ltC n)
 | .lst rows _=>rows.all fun r=>r.all (ltC n)
 | .mp kvs _ _=>kvs.all (ltA n)
 | .it m _ _ _=>(match m with|some id=>decide (id<n)|none=>true)
 |_=>true
theorem xV {α:Type} {f:α->α} {p:α->Bool} (h: ∀a,p a=true->f a=a): ∀{l:List α},l.all p=true->l.map f=l
 | [],_=>rfl
 |a::l,q=>by
  simp only[Am,A4]at q
  rw[Al,h a q.1,xV h q.2]
section
variable {ρ:Nat->Nat}
theorem xa0 {v:V} (h:noK v=true):renK ρ v=v:=by
 cases v with
 |sl g rows=>cases g<;>first|rfl|simp[noK]at h
 |_=>first|rfl|simp[noK]at h
theorem zD1 {v:V} (h:noC v=true):renC ρ v=v:=by
 cases v with
 |fn f caps=>simp only[renC];rw[xV (fun _=>xa0) h]
 |ifc t v=>simp only[renC];rw[xV (fun _=>xa0) h]
 |sl g rows=>cases g<;>first|rfl|simp[noC,noK]at h
 |_=>first|rfl|simp[noC,noK]at h
theorem yx5 {v:V} (h:noA v=true):renA ρ v=v:=by
 cases v with
 |agg cs=>simp only[renA];rw[xV (fun _=>zD1) h]
 |fn f caps=>exact zD1 (v:= .fn f caps) h
 |ifc t v=>exact zD1 (v:= .ifc t v) h
 |sl g rows=>cases g<;>first|rfl|simp[noA,noC,noK]at h
 |_=>first|rfl|simp[noA,noC,noK]at h
theorem zD2 {v:V} (h:noS v=true):renS ρ v=v:=by
 cases v with
 |tup vs=>simp only[renS];rw[xV (fun _=>yx5) h]
 |agg cs=>exact yx5 (v:= .agg cs) h
 |fn f caps=>exact zD1 (v:= .fn f caps) h
 |ifc t v=>exact zD1 (v:= .ifc t v) h
 |sl g rows=>cases g<;>first|rfl|simp[noS,noA,noC,noK]at h
 |_=>first|rfl|simp[noS,noA,noC,noK]at h
variable {n:Nat} (hρ: ∀i,i<n->ρ i=i)
include hρ
theorem zx6 {v:V} (h:ltK n v=true):renK ρ v=v:=by
 cases v with
 |sl g rows=>cases g with
  |app id=>simp only[ltK,decide_eq_true_eq]at h;simp only[renK,hρ id h]
  |_=>rfl
 |ptr id off=>simp only[ltK,decide_eq_true_eq]at h;simp only[renK,hρ id h]
 |lsv id s n lo m=>simp only[ltK,decide_eq_true_eq]at h;simp only[renK,hρ id h]
 |lsp id s n k j=>simp only[ltK,decide_eq_true_eq]at h;simp only[renK,hρ id h]
 |bsv id s off n=>simp only[ltK,decide_eq_true_eq]at h;simp only[renK,hρ id h]
 |mp id=>simp only[ltK,decide_eq_true_eq]at h;simp only[renK,hρ id h]
 |_=>first|rfl|simp[ltK]at h
theorem zb9 {v:V} (h:ltC n v=true):renC ρ v=v:=by
 cases v with
 |fn f caps=>simp only[renC];rw[xV (fun _=>zx6 hρ) h]
 |ifc t v=>simp only[renC];rw[xV (fun _=>zx6 hρ) h]
 |sl g rows=>have:=zx6 hρ (v:= .sl g rows) h;cases g<;>exact this
 |ptr id off=>exact zx6 hρ (v:= .ptr id off) h
 |lsv id s' n' lo m=>exact zx6 hρ (v:= .lsv id s' n' lo m) h
 |lsp id s' n' k j=>exact zx6 hρ (v:= .lsp id s' n' k j) h
 |bsv id s' off n'=>exact zx6 hρ (v:= .bsv id s' off n') h
 |mp id=>exact zx6 hρ (v:= .mp id) h
 |_=>first|rfl|simp[ltC,ltK]at h
theorem zZ2 {v:V} (h:ltA n v=true):renA ρ v=v:=by
 cases v with
 |agg cs=>simp only[renA];rw[xV (fun _=>zb9 hρ) h]
 |fn f caps=>exact zb9 hρ (v:= .fn f caps) h
 |ifc t v=>exact zb9 hρ (v:= .ifc t v) h
 |sl g rows=>have:=zb9 hρ (v:= .sl g rows) h;cases g<;>exact this
 |ptr id off=>exact zb9 hρ (v:= .ptr id off) h
 |lsv id s' n' lo m=>exact zb9 hρ (v:= .lsv id s' n' lo m) h
 |lsp id s' n' k j=>exact zb9 hρ (v:= .lsp id s' n' k j) h
 |bsv id s' off n'=>exact zb9 hρ (v:= .bsv id s' off n') h
 |mp id=>exact zb9 hρ (v:= .mp id) h
 |_=>first|rfl|simp[ltA,ltC,ltK]at h
theorem yx6 {v:V} (h:ltS n v=true):renS ρ v=v:=by
 cases v with
 |tup vs=>simp only[renS];rw[xV (fun _=>zZ2 hρ) h]
 |agg cs=>exact zZ2 hρ (v:= .agg cs) h
 |fn f caps=>exact zb9 hρ (v:= .fn f caps) h
 |ifc t v=>exact zb9 hρ (v:= .ifc t v) h
 |sl g rows=>have:=zZ2 hρ (v:= .sl g rows) h;cases g<;>exact this
 |ptr id off=>exact zb9 hρ (v:= .ptr id off) h
 |lsv id s' n' lo m=>exact zb9 hρ (v:= .lsv id s' n' lo m) h
 |lsp id s' n' k j=>exact zb9 hρ (v:= .lsp id s' n' k j) h
 |bsv id s' off n'=>exact zb9 hρ (v:= .bsv id s' off n') h
 |mp id=>exact zb9 hρ (v:= .mp id) h
 |_=>first|rfl|simp[ltS,ltA,ltC,ltK]at h
theorem wD {o:Ob} (h:ltOb n o=true):yN ρ o=o:=by
 cases o with
 |box cells=>simp only[yN];rw[xV (fun _=>zb9 hρ) h]
 |lst rows s=>simp only[yN];rw[xV (fun _ q=>xV (fun _=>zb9 hρ) q) h]
 |mp kvs borns clk=>simp only[yN];rw[xV (fun _=>zZ2 hρ) h]
 |it m since seen last=>
  cases m with
  |none=>rfl
  |some id=>simp only[ltOb,decide_eq_true_eq]at h;simp only[yN,B3,hρ id h]
 |_=>rfl
end
theorem ze1 {n N i:Nat} (h:i<n):ren (List.range n) N i=i:=by
 rw[wE (by simpa using h)];simp
theorem yq4 {n0:Nat} {s loc:St} (hok:s.all (ltOb s.length)=true) (hn:n0<=s.length):Picks n0 (List.range s.length) (s++loc) s:=by
 refine⟨by simp,C3,fun i j o hi ho=> ?_,fun i hi=> ?_⟩
 .obtain⟨hl,hj⟩:=A1.1 hi
  simp at hj hl
  subst hj
  have:ltOb s.length o=true:=by
   rw[Af]at hok
   exact hok o (Av.2 ⟨i,ho⟩)
  rw[wD (fun k hk=>ze1 hk) this,Ab hl]
  exact ho
 .rw[Cw (by omega)]
theorem zC {ρ:Nat->Nat} {v:V} (h:noS v=true):argS ρ v v:= .inl (zD2 h).symm
theorem zX {ρ:Nat->Nat} {g:Tag} {rows:List (List V)}:argS ρ (.sl .ro rows) (.sl g rows):= .inr (.inr (.inl ⟨g,rows,rfl,rfl⟩))
theorem zo4 {n N:Nat} {v:V} (h:ltS n v=true):argS (ren (List.range n) N) v v:= .inl (yx6 (fun _ hk=>ze1 hk) h).symm
theorem zH {ρ:Nat->Nat}: ∀{l:List V},l.all noS=true->All2 (argS ρ) l l
 | [],_=>trivial
 |v::l,h=>by
  simp only[Am,A4]at h
  exact⟨zC h.1,zH h.2⟩
section
variable {P:Program} {c:Ctx} {nt:Nat} {e:Env} {σ:St} {K:KT} {Q:QT} {d:Option Tmp} {R:V->St->Prop} {rs:List ResultVar} {n0:Nat}
def wret (v:Option V) (n0:Nat) (R:V->St->Prop) (σ:St):Prop:= ∃x,v=some x/\VRet n0 R x σ
@[go_sem] theorem retQ_ret:retQ P rs n0 R .ret e σ=wret (retV P rs e σ) n0 R σ:=id rfl
@[go_sem] theorem retQ_normal:retQ P rs n0 R .normal e σ=wret (retV P rs e σ) n0 R σ:=id rfl
attribute [go_sem] retV yq8 zM6
theorem zQ {v r:V} (hr:argS (ren [] σ.length) r v) (hR:R r []):wret (some v) 0 R σ:=
 ⟨v,rfl,v,σ,[],[],r,.refl _ _,⟨rfl,D5,fun i j o h=>by simp at h,fun i h=>absurd h (Bg i)⟩,hr,hR⟩
theorem zr3 (k:Nat) {v r:V} (hk:(σ.take k).length=k) (hok:(σ.take k).all (ltOb k)=true) (hn:n0<=k) (hr:argS (ren (List.range k) σ.length) r v) (hR:R r (σ.take k)):wret (some v) n0 R σ:=by
 have h1:σ.take k++σ.drop k=σ:=Bp k σ
 have hp:=yq4 (n0:=n0) (s:=σ.take k) (loc:=σ.drop k) (by rw[hk];exact hok) (by rw[hk];exact hn)
 rw[h1,hk]at hp
 exact⟨v,rfl,v,σ,_,σ.take k,r,.refl _ _,hp,hr,hR⟩
theorem yL7 (id s:Nat) (rows:List (List V)) {v:V} (hσ:σ[id]? =some (.lst rows s)) (hp:xW rows=true) (h:wret (some (frzS id rows v)) n0 R (zl7 id rows σ)):wret (some v) n0 R σ:=by
 obtain⟨x,hx,v1,σ1,pick,σ',r,hf,hr⟩:=h
 cases hx
 exact⟨v,rfl,v1,σ1,pick,σ',r,.step id s rows hσ hp hf,hr⟩
abbrev Pure (P:Program) (f:FuncId) (args:List V) (v:V):Prop:=VCalls P f args [] fun r s=>r=v/\s= []
theorem zD {f:FuncId} {caps args args':List V} {v:V} {KV:V->St->Prop} (hc:Pure P f args' v) (hb:wS P f=true) (hargs:All2 (argS (ren [] σ.length)) args' (args++caps)) (hn:noS v=true) (hk:KV v σ):
  wVC P c (.fn f caps) args σ KV fx:=by
 refine VC.of hc hb [] D5 rfl (fun i j o h=>by simp at h) hargs ?_
 rintro r σ' ⟨rfl,rfl⟩ _
 rw[zD2 hn]
 have:xE [] σ []=σ:=by simp[xE,mset]
 rw[this];exact hk
theorem xJ4 {f:FuncId} {caps args args':List V} {o:Ob} {i:Nat} {KV:V->St->Prop} {R:V->St->Prop} (hc:VCalls P f args' [o] R) (hb:wS P f=true) (ho:σ[i]? =some o) (hlt:ltOb 0 o=true)
  (hargs:All2 (argS (ren [i] σ.length)) args' (args++caps)) (hk: ∀r σ',R r σ'->1<=σ'.length->KV (renS (ren [i] σ.length) r) (xE [i] σ σ')):wVC P c (.fn f caps) args σ KV fx:=by
 refine VC.of hc hb [i] (by simp) rfl (fun k j o' h1 h2=> ?_) hargs hk
 cases k with
 |zero=>
  simp at h1 h2
  subst h1;subst h2
  rw[wD (n:=0) (fun _ h=>absurd h (Bg _)) hlt];exact ho
 |succ k=>simp at h1
end
end Go.Vx
