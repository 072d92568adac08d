/-
  A region whose order is open: every order that its edges allow comes to what the text's order comes to.
  No condition: a library text; nothing of the program is named.
-/
import Derived.Test.YtefbicjgbaaieaaGreatQAE
import Derived.Orders
set_option maxHeartbeats 8000000
namespace Go.Vx
open Go
section
variable{P:Program}{c:Ctx}{nt:Nat}{e:Env}{σ:St}{a:Act}{w:World}{L:Nat->Nat}{β:List Value}
variable {fn:Func}{code:Code}
def envA:Nat->List V->Env|_,[]=>env0|i,v::vs=>upd (envA (i+1) vs) i v
theorem ye5:∀(vs:List V)(i t:Nat),envA i vs (i+t)=vs.getD t .u
 |[],_,_=>by simp[envA,env0]|v::vs,i,0=>by simp[envA,upd]|v::vs,i,t+1=>by simp only[envA,upd];rw[if_neg om];have:=ye5 vs (i+1) t;rw[show i+(t+1)=i+1+t by omega,this];simp
def yt5(P:Program)(e:Env)(σ:St):ResultVar->Option V |.tmp t=>some (e t)|.cell t T=>(match zi4 P T σ (e t)with|.ok v=>some v|_=>none)
def zP4(P:Program)(e:Env)(σ:St):List ResultVar->Option (List V) |[]=>some []|r::rs=>(match yt5 P e σ r,zP4 P e σ rs with|some v,some vs=>if wO v=true then some (v::vs)else none|_,_=>none)
def retV(P:Program)(rs:List ResultVar)(e:Env)(σ:St):Option V:=match rs with |[r]=>yt5 P e σ r|rs=>(zP4 P e σ rs).map .tup
def resS(a:Act):ResultVar->Sem Value |.tmp t=>pure (a.tmps.getD t undef)|.cell t T=>do loadVar T (<-asAddr (a.tmps.getD t undef))
theorem yV3(fn:Func)(a:Act):results fn a.tmps=(do let vs<-fn.results.mapM (resS a);pure (if h:vs.size=1then vs[0]else .tuple vs)):=by unfold results;rfl
theorem xB3(h:Sim c nt e σ a w L β){r:ResultVar}{v:V}(hv:yt5 P e σ r=some v):∃x,(resS a r).run P w=.ok x w/\RdS w L σ β v x:=by cases r with |tmp t=>simp only[yt5,Option.some.injEq]at hv;subst hv;exact⟨_,rfl,h.env t⟩|cell t T=>
  simp only[yt5]at hv;split at hv;.rename_i v' hl;simp only[Option.some.injEq]at hv;subst hv;obtain⟨bl,off,z,hy,hz,r⟩:=yJ7 (P:=P) T h.mem (h.env t) hl;exact⟨z,by simp only[resS,Sem.run_bind,hy,asAddr,Sem.run_pure,Result.andThen_ok,hz],r⟩
  .cases hv
theorem yt4(h:Sim c nt e σ a w L β):∀(rs:List ResultVar)(vs:List V),zP4 P e σ rs=some vs->∃xs:List Value,(rs.mapM (resS a)).run P w=.ok xs w/\All2 (RdA w L σ β) vs xs/\xs.length=rs.length
 |[],vs,hv=>by simp only[zP4,Option.some.injEq]at hv;subst hv;exact⟨[],rfl,tV,rfl⟩|r::rs,vs,hv=>by
  simp only[zP4]at hv;split at hv
  .rename_i v vs' h1 h2;split at hv;.rename_i hh;simp only[Option.some.injEq]at hv;subst hv;obtain⟨x,hx,hr⟩:=xB3 (P:=P) h h1;obtain⟨xs,aa,ab,hl⟩:=yt4 h rs vs' h2;refine⟨x::xs,?_,⟨yt2 hr hh,ab⟩,by simp[hl]⟩;rw[List.mapM_cons];simp only[Sem.run_bind,hx,Result.andThen_ok,aa,Sem.run_pure]
   .cases hv
  .cases hv
theorem xN1(h:Sim c nt e σ a w L β){v:V}(hv:retV P fn.results.toList e σ=some v):∃x,(results fn a.tmps).run P w=.ok x w/\RdS w L σ β v x:=by
 have aa:∀xs:List Value,(fn.results.toList.mapM (resS a)).run P w=.ok xs w->(results fn a.tmps).run P w=.ok (if hs:xs.toArray.size=1then xs.toArray[0]else .tuple xs.toArray) w:=by intro xs hx;rw[yV3,Array.mapM_eq_mapM_toList];simp only[Sem.run_bind,Sem.run_map,hx,Result.andThen_ok,Sem.run_pure]
 unfold retV at hv;split at hv;.rename_i r hr;obtain⟨x,hx,ad⟩:=xB3 (P:=P) h hv;refine⟨x,?_,ad⟩;have:=aa [x] (by rw[hr,List.mapM_cons];simp only[Sem.run_bind,hx,Result.andThen_ok,List.mapM_nil,Sem.run_pure]);simpa using this
 .rename_i rs ae;cases ha:zP4 P e σ fn.results.toList with |none=>rw[ha]at hv;cases hv|some vs=>
   rw[ha]at hv;simp only[B9,Option.some.injEq]at hv;subst hv;obtain⟨xs,af,ab,hl⟩:=yt4 (P:=P) h _ _ ha;refine⟨.tuple xs.toArray,?_,xs,rfl,ab⟩;have hn:¬xs.toArray.size=1:=by intro q;simp only[List.size_toArray]at q;rw[hl]at q;obtain⟨r,hr⟩:=List.length_eq_one_iff.1 q;exact ae r hr
   have:=aa xs af;rw[dif_neg hn]at this;exact this
def VRet(n0:Nat)(R:V->St->Prop)(v:V)(σ:St):Prop:=∃v1 σ1 pick σ' r,Frz [v] σ [v1] σ1/\Picks n0 pick σ1 σ'/\argS (ren pick σ1.length) r v1/\R r σ'
def retQ(P:Program)(rs:List ResultVar)(n0:Nat)(R:V->St->Prop):Exit->Env->St->Prop|.normal,e,σ|.ret,e,σ=>∃v,retV P rs e σ=some v/\VRet n0 R v σ|_,_,_=>False
theorem VCalls.introW{f:FuncId}{nt:Nat}{rs:List ResultVar}{args:List V}{σ:St}{R:V->St->Prop}(n0:Nat)(hf:P.funcs[f]?=some fn)(ag:fn.ntmps=nt)(ad:fn.results=rs.toArray)(hb:fn.body=some code)(h0:σ.length=n0)(an:args.length<=nt)(h:∀c:Ctx,c.σ0.length=n0->c.β0.length=c.σ0.length->VW P c nt code (retQ P rs n0 R) (envA 0 args) σ):VCalls P f args σ R:=by
 subst ag;subst h0;have ad:fn.results.toList=rs:=by rw[ad]
 subst ad;intro w L β aa hm ha;have hlen:=ha.length;refine calls_of_wp hf hb ?_;have ae:Sim (entry w L σ β) fn.ntmps (envA 0 args) σ {tmps:=aa.toArray++Array.replicate (fn.ntmps-aa.toArray.size) undef,defers:=[]} w L β:=by
  refine⟨hm,by simp;omega,rfl,λt=>?_⟩;have e1:=ye5 args 0 t;rw[Ab]at e1;rw[e1];by_cases ht:t<args.length
  .obtain⟨x,hx,r⟩:=ha.get t _ (A0 ht);have:(aa.toArray++Array.replicate (fn.ntmps-aa.toArray.size) undef).getD t undef=x:=by rw[Array.getD_eq_getD_getElem?,Do (by simp;omega)];simp[hx]
   rw[this,A7,A0 ht];exact r
  .rw[A7,Bd om];trivial
 refine wp_mono (h (entry w L σ β) rfl hm.len _ w L β ae) λx a' w' q=>?_;have fin:∀{x:Exit},(x=.normal∨x=.ret)->Lift (entry w L σ β) fn.ntmps (retQ P fn.results.toList σ.length R) x a' w'->a'.defers=[]/\∃v,(results fn a'.tmps).run P w'=.ok v w'/\∃v' r L' σ' β',Ending.returned v=Ending.returned v'/\R r σ'/\σ.length<=σ'.length/\Mem (entry w L σ β) w' L' σ' β'/\RdS w' L' σ' β' r v':=by
  intro x hx q;have hq:∃e' σ' L' β',Sim (entry w L σ β) fn.ntmps e' σ' a' w' L' β'/\∃v,retV P fn.results.toList e' σ'=some v/\VRet σ.length R v σ':=by rcases hx with rfl|rfl<;>exact q
  obtain⟨e',σ0,ao,β1,hs,v,hv,v1,σ1,pick,σ',r,ah,hp,ai,hR⟩:=hq;obtain⟨x,hx,af⟩:=xN1 (P:=P) hs hv;obtain⟨L',β2,ab,_,_,aj,_⟩:=ah.ok hs.mem (xs:=[x]) ⟨af,tV⟩;refine⟨hs.defs,x,hx,x,r,L',σ',_,rfl,hR,?_,ab.pick hp hm.len,zx5 (hp.bak ab.len) ai aj⟩;rw[hp.len];rcases Cl pick.length σ.length with ak|al;.have:=(A1.1 (hp.id pick.length ak)).1;omega
  .exact al
 cases x with |normal=>exact fin (.inl rfl) q|ret=>exact fin (.inr rfl) q|exit id=>obtain⟨e',σ',L',β',hs,hq⟩:=q;exact hq.elim|goto l=>exact q.elim|panic ch=>exact q.elim|outgrown=>exact q.elim
theorem VCalls.intro{f:FuncId}{nt:Nat}{rs:List ResultVar}{args:List V}{σ:St}{R:V->St->Prop}(n0:Nat)(hf:P.funcs[f]?=some fn)(aa:fn.ntmps=nt)(ab:fn.results=rs.toArray)(hb:fn.body=some code)(h0:σ.length=n0)(ad:args.length<=nt)(h:∀c:Ctx,c.σ0.length=n0->c.β0.length=c.σ0.length->zz4 P c nt code (retQ P rs n0 R) (envA 0 args) σ):VCalls P f args σ R:=VCalls.introW n0 hf aa ab hb h0 ad λc h1 h2=>zh1 code _ _ _ (h c h1 h2)
theorem ya2{Q:Exit->Act->World->Prop}(I:Nat->Act->World->Prop)(n:Nat)(h₀:I n a w)(round:∀n a w,I n a w->code.wp P (Exit.then (λa' w'=>∃m,m<n/\I m a' w') Q) a w):(Code.loop code).wp P Q a w:=by
 intro b k cs;have key:∀n a w,I n a w->∃e a' w',Q e a' w'/\Arrives P (lone (b.at a (.code code::.inLoop code::k)) cs w) b k cs e a' w':=by intro n;induction n using Nat.strongRecOn with|_ n ih=>intro a w hI;obtain⟨e,a₁,w₁,hq,aa⟩:=round n a w hI b (.inLoop code::k) cs;cases e with |normal=>obtain⟨m,ad,ae⟩:=hq;obtain⟨e₂,a₂,w₂,af,ab⟩:=ih m ad a₁ w₁ ae;exact⟨e₂,a₂,w₂,af,.of_steps (Steps.trans aa (.one step_inLoop)) ab⟩|exit id=>exact⟨_,a₁,w₁,hq,.pass (x:=.inLoop code) rfl (λ_ _=>.inl sm) aa⟩|goto l=>exact⟨_,a₁,w₁,hq,.pass (x:=.inLoop code) rfl (λ_ _=>.inl sm) aa⟩|ret=>exact⟨_,a₁,w₁,hq,.pass (x:=.inLoop code) rfl (λ_ _=>.inl sm) aa⟩|panic ch=>exact⟨_,a₁,w₁,hq,.pass (x:=.inLoop code) rfl (λ_ _=>.inl sm) aa⟩|outgrown=>exact⟨_,a₁,w₁,hq,.pass (x:=.inLoop code) rfl (λ_ _=>.inl sm) aa⟩
 obtain⟨e,a',w',hq,aa⟩:=key n a w h₀;exact⟨e,a',w',hq,.of_steps (.one step_loop) aa⟩
def envK:List (Nat×V)->Env |[]=>env0|(t,v)::r=>upd (envK r) t v
def xT3(n0:Nat)(keep:List Nat)(Inv:List V->St->Nat->Prop)(m:Nat)(e:Env)(σ:St):Prop:=∃vs s pick,Picks n0 pick σ s/\All2 (argS (ren pick σ.length)) vs (keep.map e)/\Inv vs s m
theorem zP6(h:Sim c nt e σ a w L β)(hc:c.β0.length=c.σ0.length){keep:List Nat}{Inv:List V->St->Nat->Prop}{m:Nat}(hk:xT3 c.σ0.length keep Inv m e σ):∃vs s β',Inv vs s m/\vs.length=keep.length/\Sim c nt (envK (keep.zip vs)) s a w L β':=by obtain⟨vs,s,pick,hp,aa,hI⟩:=hk;have hl:=aa.length;simp at hl;refine⟨vs,s,_,hI,hl,h.mem.pick hp hc,h.size,h.defs,λt=>?_⟩;have hb:=hp.bak h.mem.len;clear hI;revert aa hl;generalize keep=kl;intro aa hl;induction kl generalizing vs with |nil=>trivial|cons q kl ih=>cases vs with |nil=>simp at hl|cons v vs=>
   simp only[Ei,envK,upd];by_cases hq:t=q;.subst hq;rw[if_pos rfl];exact zx5 hb aa.1 (h.env t)
   .rw[if_neg hq];exact ih vs aa.2 (by simpa using hl)
end
def Fx.{v}{α:Sort v}(_:α):Type:=Unit
def fx.{v} {α:Sort v} {a:α}:Fx a:=()
abbrev KT:=Env->St->Prop
abbrev QT:=Exit->Env->St->Prop
def zt6(P:Program)(c:Ctx)(nt:Nat)(code:Code)(Q:QT)(_:Fx code)(_:Fx Q)(e:Env)(σ:St):Prop:=zz4 P c nt code Q e σ
def wrun(P:Program)(c:Ctx)(nt:Nat)(ops l:List Oper)(K:KT)(_:Fx ops)(_:Fx l)(_:Fx K)(e:Env)(σ:St):Prop:=vrun P c nt ops l K e σ
def wop(P:Program)(c:Ctx)(nt:Nat)(d:Option Tmp)(op:Op)(K:KT)(_:Fx op)(_:Fx K)(e:Env)(σ:St):Prop:=vop P c nt d op K e σ
def wfin(nt:Nat)(d:Option Tmp)(r:R)(K:KT)(_:Fx K)(e:Env)(σ:St):Prop:=vfin nt d r K e σ
def wput(nt:Nat)(d:Option Tmp)(v:V)(K:KT)(_:Fx K)(e:Env)(σ:St):Prop:=vput nt d v K e σ
def zK1(p q:Prop)(_:Fx q):Prop:=xg0 p q
def yv1(x:V)(A B:Prop)(_:Fx A)(_:Fx B):Prop:=yP1 x A B
def wgrd(x:V)(want:Bool)(A B:Prop)(_:Fx A)(_:Fx B):Prop:=vgrd x want A B
def wgdo(t:Option Tmp)(want:Bool)(e:Env)(A B:Prop)(_:Fx A)(_:Fx B):Prop:=match t with|some t=>vgrd (e t) want A B|none=>False
def wdst(ops:List Oper)(_:Fx ops)(j:Nat):Option Tmp:=gdst ops j
def ya3(K:KT)(Q:QT)(_:Fx K)(_:Fx Q)(x:Exit)(e:Env)(σ:St):Prop:=xD5 K Q x e σ
def wblk(id:Nat)(Q:QT)(_:Fx Q)(x:Exit)(e:Env)(σ:St):Prop:=blkV id Q x e σ
def wVW(P:Program)(c:Ctx)(nt:Nat)(code:Code)(Q:QT)(_:Fx code)(_:Fx Q)(e:Env)(σ:St):Prop:=VW P c nt code Q e σ
def wVC(P:Program)(c:Ctx)(fv:V)(az:List V)(σ:St)(K:V->St->Prop)(_:Fx K):Prop:=VC P c fv az σ K
def xF9(nt:Nat)(d:Option Tmp)(K:KT)(_:Fx K)(e:Env)(v:V)(σ:St):Prop:=vput nt d v K e σ
section
variable{P:Program}{c:Ctx}{nt:Nat}{e:Env}{σ:St}{K:KT}{Q:QT}{d:Option Tmp}
variable{x:Operand}{t:TypeId}{i:Nat}{A:Prop}{B:Prop}{op:BinOp}{b:Bool}{es:Option (List Pk)}{y:Operand}{l:List Operand}{want:Bool}{t':TypeId}{k:IntKind}{f:FuncId}{ops:List Oper}{ty:TypeId}{aft:Array Edge}{n:Int}{p:Prop}{ts:Array TypeId}{ek:Nat}
theorem zO{code:Code}(h:zt6 P c nt code Q fx fx e σ):zz4 P c nt code Q e σ:=h
@[go_sem]theorem wcode_skip:zt6 P c nt .skip Q fx fx e σ=Q .normal e σ:=id rfl
@[go_sem]theorem wcode_seq{x y:Code}:zt6 P c nt (.seq x y) Q fx fx e σ=zt6 P c nt x (ya3 (zt6 P c nt y Q fx fx) Q fx fx) fx fx e σ:=id rfl
@[go_sem]theorem wcode_cond{t f:Code}:zt6 P c nt (.cond x t f) Q fx fx e σ=yv1 (zF e x) (zt6 P c nt t Q fx fx e σ) (zt6 P c nt f Q fx fx e σ) fx fx:=id rfl
@[go_sem]theorem wcode_block{b:Code}:zt6 P c nt (.block i b) Q fx fx e σ=zt6 P c nt b (wblk i Q fx) fx fx e σ:=id rfl
@[go_sem]theorem wcode_exit:zt6 P c nt (.exit i) Q fx fx e σ=Q (.exit i) e σ:=id rfl
@[go_sem]theorem wcode_ret:zt6 P c nt .ret Q fx fx e σ=Q .ret e σ:=id rfl
@[go_sem]theorem wcode_region{l:List Oper}:zt6 P c nt (.region i l.toArray false) Q fx fx e σ=wrun P c nt l l (Q .normal) fx fx fx e σ:=id rfl
@[go_sem]theorem wcode_draw{ops:Array Oper}:zt6 P c nt (.region i ops true) Q fx fx e σ=wVW P c nt (.region i ops true) Q fx fx e σ:=id rfl
@[go_sem]theorem wcode_loop{b:Code}:zt6 P c nt (.loop b) Q fx fx e σ=wVW P c nt (.loop b) Q fx fx e σ:=id rfl
@[go_sem]theorem wthen_normal:ya3 K Q fx fx .normal e σ=K e σ:=id rfl
@[go_sem]theorem wthen_ret:ya3 K Q fx fx .ret e σ=Q .ret e σ:=id rfl
@[go_sem]theorem wthen_exit:ya3 K Q fx fx (.exit i) e σ=Q (.exit i) e σ:=id rfl
@[go_sem]theorem wblk_normal:wblk i Q fx .normal e σ=Q .normal e σ:=id rfl
@[go_sem]theorem wblk_ret:wblk i Q fx .ret e σ=Q .ret e σ:=id rfl
@[go_sem]theorem wblk_same:wblk i Q fx (.exit i) e σ=Q .normal e σ:=by show(if i=i then _ else _)=_;rw[if_pos rfl]
@[go_sem]theorem wblk_exit{j:Nat}:wblk i Q fx (.exit j) e σ=if j=i then Q .normal e σ else Q (.exit j) e σ:=id rfl
theorem yW{op:Op}(h1:za5 P e σ op=evOp P e σ op)(h2:vop P c nt d op K e σ=vfin nt d (xT P d e σ op) K e σ):wop P c nt d op K fx fx e σ=wfin nt d (evOp P e σ op) K fx e σ:=by unfold wop wfin;rw[h2];unfold xT;rw[h1];simp
def wh(b:Bool)(x y:R):R:=if b=true then x else y
@[go_sem]theorem wh_t{x y:R}:wh true x y=x:=rfl
@[go_sem]theorem wh_f{x y:R}:wh false x y=y:=rfl
def yy6:V->Bool |.tup []=>true|_=>false
@[go_sem]theorem hinted_some{t:Nat}:ze4 e (some t)=yy6 (e (100000+t)):=by unfold ze4 yy6;rfl
@[go_sem]theorem hinted_none:ze4 e none=false:=rfl
@[go_sem]theorem isMark_t:yy6 (.tup [])=true:=rfl
@[go_sem]theorem isMark_u:yy6 .u=false:=rfl
@[go_sem]theorem env0_u{t:Nat}:env0 t=.u:=rfl
@[go_sem]theorem wrun_nil:wrun P c nt ops [] K fx fx fx e σ=K e σ:=id rfl
@[go_sem]theorem wrun_cons{rest:List Oper}{op:Op}{pos:String}:wrun P c nt ops (⟨d,op,ty,pos,aft,none⟩::rest) K fx fx fx e σ=wop P c nt d op (wrun P c nt ops rest K fx fx fx) fx fx e σ:=id rfl
@[go_sem]theorem wrun_guard{rest:List Oper}{op:Op}{pos:String}{j:Nat}:wrun P c nt ops (⟨d,op,ty,pos,aft,some (j,want)⟩::rest) K fx fx fx e σ=wgdo (wdst ops fx j) want e (wop P c nt d op (wrun P c nt ops rest K fx fx fx) fx fx e σ) (wput nt d (.tup []) (wrun P c nt ops rest K fx fx fx) fx e σ) fx fx:=id rfl
@[go_sem]theorem wgdo_some{t:Tmp}:wgdo (some t) want e A B fx fx=wgrd (e t) want A B fx fx:=id rfl
@[go_sem]theorem wdst_zero{d:Option Tmp}{op:Op}{pos:String}{g:Option (Nat×Bool)}{l:List Oper}:wdst (⟨d,op,ty,pos,aft,g⟩::l) fx 0=d:=id rfl
@[go_sem]theorem wdst_succ{o:Oper}{l:List Oper}{n:Nat}:wdst (o::l) fx (n+1)=wdst l fx n:=by simp[wdst,gdst]
@[go_sem]theorem wgrd_tt:wgrd (.bool true) true A B fx fx=A:=by simp[wgrd,vgrd]
@[go_sem]theorem wgrd_ff:wgrd (.bool false) false A B fx fx=A:=by simp[wgrd,vgrd]
@[go_sem]theorem wgrd_tf:wgrd (.bool true) false A B fx fx=B:=by simp[wgrd,vgrd]
@[go_sem]theorem wgrd_ft:wgrd (.bool false) true A B fx fx=B:=by simp[wgrd,vgrd]
@[go_sem]theorem wgrd_no:wgrd (.tup []) want A B fx fx=B:=by simp[wgrd,vgrd]
@[go_sem]theorem wcond_t:yv1 (.bool true) A B fx fx=A:=by simp[yv1,yP1]
@[go_sem]theorem wcond_f:yv1 (.bool false) A B fx fx=B:=by simp[yv1,yP1]
theorem zN(ha:b=true->A)(hb:b=false->B):yv1 (.bool b) A B fx fx:=⟨ha,hb⟩
theorem zY(ha:b=want->A)(hb:b=(!want)->B):wgrd (.bool b) want A B fx fx:=⟨ha,λh=>hb (by cases b<;>cases want<;>simp_all)⟩
theorem zI{q:Prop}(hp:p)(hq:q):zK1 p q fx:=⟨hp,hq⟩
@[go_sem]theorem wneed_t{q:Prop}:zK1 True q fx=q:=by simp[zK1,xg0]
@[go_sem]theorem wfin_ok{v:V}:wfin nt d (.ok v) K fx e σ=wput nt d v K fx e σ:=id rfl
@[go_sem]theorem wfin_need{v:V}:wfin nt d (.need p v) K fx e σ=zK1 p (wput nt d v K fx e σ) fx:=id rfl
@[go_sem]theorem wfin_st{v:V}{s:St}:wfin nt d (.st v s) K fx e σ=wput nt d v K fx e s:=id rfl
@[go_sem]theorem wfin_needst{v:V}{s:St}:wfin nt d (.needst p v s) K fx e σ=zK1 p (wput nt d v K fx e s) fx:=id rfl
@[go_sem]theorem wput_some{t:Nat}{v:V}:wput nt (some t) v K fx e σ=(t<nt/\K (upd e t v) σ):=id rfl
@[go_sem]theorem wput_none{v:V}:wput nt none v K fx e σ=K e σ:=id rfl
@[go_sem]theorem wputK_eq{v:V}:xF9 nt d K fx e v σ=wput nt d v K fx e σ:=id rfl
@[go_sem]theorem wop_move:wop P c nt d (.move x) K fx fx e σ=wput nt d (zF e x) K fx e σ:=(yW rfl rfl).trans rfl
@[go_sem]theorem wop_assign:wop P c nt d (.assign x) K fx fx e σ=wput nt d (zF e x) K fx e σ:=(yW rfl rfl).trans rfl
@[go_sem]theorem wop_pick{z:Operand}:wop P c nt d (.pick x y z) K fx fx e σ=wfin nt d (zH6 (zF e x) (zF e y) (zF e z)) K fx e σ:=(yW rfl rfl).trans rfl
@[go_sem]theorem wop_alloc:wop P c nt d (.alloc t) K fx fx e σ=wfin nt d (zm0 P t σ) K fx e σ:=(yW rfl rfl).trans rfl
@[go_sem]theorem wop_box:wop P c nt d (.box t x) K fx fx e σ=wfin nt d (zQ5 σ (zF e x)) K fx e σ:=(yW rfl rfl).trans rfl
@[go_sem]theorem wop_build{l:List (Nat×Operand)}:wop P c nt d (.build t l.toArray) K fx fx e σ=wfin nt d (zx7 (zb1 P t) (plcT P t) (l.map λp=>(p.1,zF e p.2))) K fx e σ:=(yW rfl rfl).trans rfl
@[go_sem]theorem wop_buildSlice{n:Nat}{l:List (Nat×Operand)}:wop P c nt d (.buildSlice t n l.toArray) K fx fx e σ=wfin nt d (wh (ze4 e d) (za3 ((elT P t).map (·.1)) n σ (l.map λp=>(p.1,zF e p.2))) (zb5 ((elT P t).map (·.1)) n (l.map λp=>(p.1,zF e p.2)))) K fx e σ:=id rfl
@[go_sem]theorem wop_load:wop P c nt d (.load t x) K fx fx e σ=wfin nt d (zi4 P t σ (zF e x)) K fx e σ:=(yW rfl rfl).trans rfl
@[go_sem]theorem wop_store:wop P c nt d (.store t x y) K fx fx e σ=wfin nt d (zu4 P t σ (zF e x) (zF e y)) K fx e σ:=(yW rfl rfl).trans rfl
@[go_sem]theorem wop_nil:wop P c nt d (.nilCheck x) K fx fx e σ=wfin nt d (zY4 (zF e x)) K fx e σ:=(yW rfl rfl).trans rfl
@[go_sem]theorem wop_bin:wop P c nt d (.binOp op t x y t') K fx fx e σ=wfin nt d (wh (zh8 y) (zu3 op (eqK P t) (zF e x)) (wh (zg7 y) (zr1 op (zi9 P t) (zF e x)) (zt5 op (eqK P t) (eqS P t) (zF e x) (zF e y)))) K fx e σ:=(yW rfl rfl).trans rfl
@[go_sem]theorem isNilOp_tmp{t:Nat}:zh8 (.tmp t)=false:=rfl
@[go_sem]theorem isNilOp_nil:zh8 (.const (.slice none 0 0))=true:=rfl
@[go_sem]theorem isNilOp_int:zh8 (.const (.int k n))=false:=rfl
@[go_sem]theorem isNilOp_bool:zh8 (.const (.bool b))=false:=rfl
@[go_sem]theorem isNilOp_str{b:ByteArray}:zh8 (.const (.string b))=false:=rfl
@[go_sem]theorem isNilOp_ptr{a:Option Addr}:zh8 (.const (.pointer a))=false:=rfl
@[go_sem]theorem isNilOp_func:zh8 (.func f)=false:=rfl
@[go_sem]theorem isNilOp_map{m:Option Nat}:zh8 (.const (.map m))=false:=rfl
@[go_sem]theorem isNilMap_tmp{t:Nat}:zg7 (.tmp t)=false:=rfl
@[go_sem]theorem isNilMap_nil:zg7 (.const (.map none))=true:=rfl
@[go_sem]theorem isNilMap_int:zg7 (.const (.int k n))=false:=rfl
@[go_sem]theorem isNilMap_bool:zg7 (.const (.bool b))=false:=rfl
@[go_sem]theorem isNilMap_str{b:ByteArray}:zg7 (.const (.string b))=false:=rfl
@[go_sem]theorem isNilMap_ptr{a:Option Addr}:zg7 (.const (.pointer a))=false:=rfl
@[go_sem]theorem isNilMap_func:zg7 (.func f)=false:=rfl
def xS8(l:List (V×St))(A:V->St->Prop)(_:Fx A):Prop:=∀p∈l,A p.1 p.2
@[go_sem]theorem xF3{l:List (V×St)}:wfin nt d (.any l) K fx e σ=xS8 l (λv s=>wput nt d v K fx e s) fx:=id rfl
theorem xP9{l:List (V×St)}{A:V->St->Prop}(h:∀p∈l,A p.1 p.2):xS8 l A fx:=h
@[go_sem]theorem wop_makeMap{r:Option Operand}:wop P c nt d (.makeMap t r) K fx fx e σ=wfin nt d (zn1 σ (zi9 P t) (r.map (zF e))) K fx e σ:=(yW rfl rfl).trans rfl
@[go_sem]theorem wop_lookup{k:Operand}{ok:Bool}:wop P c nt d (.lookup t x k ok) K fx fx e σ=wfin nt d (xY (mapT P t) σ (zF e x) (zF e k) ok) K fx e σ:=(yW rfl rfl).trans rfl
@[go_sem]theorem wop_mapUpdate{k v:Operand}:wop P c nt d (.mapUpdate t x k v) K fx fx e σ=wfin nt d (xS (mapT P t) σ (zF e x) (zF e k) (zF e v)) K fx e σ:=(yW rfl rfl).trans rfl
@[go_sem]theorem wop_range:wop P c nt d (.range t x) K fx fx e σ=wfin nt d (zy0 (zi9 P t) σ (zF e x)) K fx e σ:=(yW rfl rfl).trans rfl
@[go_sem]theorem wop_next:wop P c nt d (.next x false) K fx fx e σ=wfin nt d (wh (ze4 e d) (zi5 true σ (zF e x)) (zi5 false σ (zF e x))) K fx e σ:=id rfl
@[go_sem]theorem wop_delete{k:Operand}:wop P c nt d (.call ⟨.builtin .delete,#[x,k],#[t,t']⟩) K fx fx e σ=wfin nt d (zr0 (mapT P t) σ (zF e x) (zF e k)) K fx e σ:=(yW rfl rfl).trans rfl
attribute[go_sem]zJ2 zx0 zn1 xY xS zy0 zi5 zr0 zr1 zo1 zi8 zw9 zQ2 zI3
@[go_sem]theorem wop_un{op:UnOp}:wop P c nt d (.unOp op t x) K fx fx e σ=wfin nt d (evUn op (zF e x)) K fx e σ:=(yW rfl rfl).trans rfl
@[go_sem]theorem wop_conv:wop P c nt d (.convert t t' x) K fx fx e σ=wfin nt d (wh (ze4 e d) (zx8 (kdT P t) (kdT P t') σ (zF e x)) (zD6 (kdT P t) (kdT P t') (zF e x))) K fx e σ:=id rfl
@[go_sem]theorem wop_slice{hi:Option Operand}:wop P c nt d (.slice t x none hi none) K fx fx e σ=wfin nt d (zn9 (arrT P t) (lenT P t) ((elT P t).map (·.1)) (zF e x) none (hi.map (zF e))) K fx e σ:=(yW rfl rfl).trans rfl
@[go_sem]theorem wop_sliceH{lo hi:Operand}:wop P c nt d (.slice t x (some lo) (some hi) none) K fx fx e σ=wfin nt d (zn9 (arrT P t) (lenT P t) ((elT P t).map (·.1)) (zF e x) (some (zF e lo)) (some (zF e hi))) K fx e σ:=(yW rfl rfl).trans rfl
@[go_sem]theorem wop_sliceL{lo:Operand}:wop P c nt d (.slice t x (some lo) none none) K fx fx e σ=wfin nt d (wh (ze4 e d) (zr3 (lenT P t) ((elT P t).map (·.1)) σ (zF e x) (zF e lo)) (zn9 (arrT P t) (lenT P t) ((elT P t).map (·.1)) (zF e x) (some (zF e lo)) none)) K fx e σ:=id rfl
@[go_sem]theorem wop_fieldAddr{f:Nat}:wop P c nt d (.fieldAddr t x f) K fx fx e σ=wfin nt d (zf6 P t (zF e x) f) K fx e σ:=(yW rfl rfl).trans rfl
@[go_sem]theorem wop_field{f:Nat}:wop P c nt d (.field t x f) K fx fx e σ=wfin nt d (zx9 (fldT P t f) (zF e x)) K fx e σ:=(yW rfl rfl).trans rfl
@[go_sem]theorem wop_idxAddr{i:Operand}:wop P c nt d (.indexAddr t x i) K fx fx e σ=wfin nt d (zj6 (slcT P t) (arrT P t) (zF e x) (zF e i)) K fx e σ:=(yW rfl rfl).trans rfl
@[go_sem]theorem wop_idx{i:Operand}:wop P c nt d (.index t x i) K fx fx e σ=wfin nt d (zQ6 (zF e x) (zF e i) (strT P t) (arrT P t)) K fx e σ:=(yW rfl rfl).trans rfl
@[go_sem]theorem wop_extract:wop P c nt d (.extract x i) K fx fx e σ=wfin nt d (zn0 (zF e x) i) K fx e σ:=(yW rfl rfl).trans rfl
@[go_sem]theorem wop_func{fn:Fn}{m:List Operand}:wop P c nt d (.makeFunc fn l.toArray m.toArray) K fx fx e σ=wfin nt d (zH5 fn l.length (m.map (zF e))) K fx e σ:=(yW rfl rfl).trans rfl
@[go_sem]theorem wop_make{l m:Operand}:wop P c nt d (.makeSlice t l m) K fx fx e σ=wfin nt d (wh (ze4 e d) (zu2 (elT P t) (zelT P t) σ (zF e l) (zF e m)) (zD8 (elT P t) (zelT P t) σ (zF e l) (zF e m))) K fx e σ:=id rfl
@[go_sem]theorem wop_len:wop P c nt d (.call ⟨.builtin .len,#[x],#[t]⟩) K fx fx e σ=wfin nt d (zY3 (lenT P t) (zF e x)) K fx e σ:=(yW rfl rfl).trans rfl
@[go_sem]theorem wop_clear:wop P c nt d (.call ⟨.builtin .clear,#[x],#[t]⟩) K fx fx e σ=wfin nt d (zu1 ((elT P t).map (·.1)) (zelT P t) σ (zF e x)) K fx e σ:=(yW rfl rfl).trans rfl
@[go_sem]theorem wop_append:wop P c nt d (.call ⟨.builtin .append,#[x,y],#[t,t']⟩) K fx fx e σ=wfin nt d (wh (ze4 e d) (zf1 (elT P t) (lenT P t') σ (zF e x) (zF e y)) (zi3 (elT P t) (lenT P t') σ (zF e x) (zF e y))) K fx e σ:=id rfl
@[go_sem]theorem wop_min:wop P c nt d (.call ⟨.builtin .min,l.toArray,ts⟩) K fx fx e σ=wfin nt d (zA9 false (l.map (zF e))) K fx e σ:=(yW rfl rfl).trans rfl
@[go_sem]theorem wop_max:wop P c nt d (.call ⟨.builtin .max,l.toArray,ts⟩) K fx fx e σ=wfin nt d (zA9 true (l.map (zF e))) K fx e σ:=(yW rfl rfl).trans rfl
@[go_sem]theorem wop_call{f:Operand}:wop P c nt d (.call ⟨.value f,l.toArray,ts⟩) K fx fx e σ=wVC P c (zF e f) (l.map (zF e)) σ (xF9 nt d K fx e) fx:=id rfl
@[go_sem]theorem evalV_tmp{t:Nat}:zF e (.tmp t)=e t:=rfl
@[go_sem]theorem evalV_const{v:Value}:zF e (.const v)=zc9 v:=rfl
@[go_sem]theorem evalV_glob{g:Nat}:zF e (.global g)=xa7 g:=rfl
@[go_sem]theorem evalV_func:zF e (.func f)=.fn f []:=rfl
@[go_sem]theorem upd_get{t':Nat}{v:V}{t:Nat}:upd e t' v t=if t=t' then v else e t:=rfl
@[go_sem]theorem ofVal_bool:zc9 (.bool b)=.bool b:=rfl
@[go_sem]theorem ofVal_int:zc9 (.int k n)=.int k n:=rfl
@[go_sem]theorem ofVal_str{s:ByteArray}:zc9 (.string s)=.str s.data.toList:=rfl
@[go_sem]theorem ofVal_nilp:zc9 (.pointer none)=.nilp:=rfl
@[go_sem]theorem ofVal_nils:zc9 (.slice none 0 0)=.sl .full []:=rfl
attribute[go_sem]zr3 zu3 yK8 lenV zH6 zY4 evUn zD6 zx8 zA9 zY3 zQ5 zm0 zn0 zx9 zf6 zi4 zm1 zu4 wO xH zQ6 zj6 zn9 zr2 bnd zi3 zf1 zF6 zo7 xS3 zu1 zb5 za3 zu2 zo0 zx7 yu8 zD8 zH5 isK zh9 dem zG6 zN3 envA envK
@[go_sem]theorem evBin_int{x y:Int}:zt5 op ek es (.int k x) (.int k y)=zO3 op k x y:=by simp[zt5]
@[go_sem]theorem evBin_str{x y:List UInt8}:zt5 op ek es (.str x) (.str y)=zP7 op x y:=rfl
@[go_sem]theorem evBin_bool{x y:Bool}:zt5 op 1 es (.bool x) (.bool y)=(match op with|.eql=>.ok (.bool (x==y))|.neq=>.ok (.bool (!(x==y)))|_=>.fail):=rfl
@[go_sem]theorem evBin_ptr{o:Nat}:zt5 op 2 es (.ptr i o) .nilp=(match op with|.eql=>.ok (.bool false)|.neq=>.ok (.bool true)|_=>.fail):=rfl
@[go_sem]theorem evBin_nil:zt5 op 2 es .nilp .nilp=(match op with|.eql=>.ok (.bool true)|.neq=>.ok (.bool false)|_=>.fail):=rfl
@[go_sem]theorem evBin_agg{ks:List Pk}{az bs:List V}:zt5 op ek (some ks) (.agg az) (.agg bs)=(match eqVs ks az bs with|some r=>(match op with|.eql=>.ok (.bool r)|.neq=>.ok (.bool (!r))|_=>.fail)|none=>.fail):=rfl
attribute[go_sem]zO3 zP7 eqVs eqPk putCells
end
def noK:V->Bool |.ptr _ _|.sl (.app _) _|.agg _|.tup _|.fn _ _|.lsv _ _ _ _ _|.lsp _ _ _ _ _|.bsv _ _ _ _|.mp _|.ifc _ _=>false|_=>true
def noC:V->Bool |.fn _ caps=>caps.all noK|.ifc _ vs=>vs.all noK|v=>noK v
def noA:V->Bool|.agg cs=>cs.all noC|v=>noC v
def noS:V->Bool|.tup vs=>vs.all noA|v=>noA v
def ltK(n:Nat):V->Bool |.ptr id _=>decide (id<n)|.sl (.app id) _=>decide (id<n)|.lsv id _ _ _ _=>decide (id<n)|.lsp id _ _ _ _=>decide (id<n)|.bsv id _ _ _=>decide (id<n)|.mp id=>decide (id<n)|.agg _|.tup _|.fn _ _|.ifc _ _=>false|_=>true
def ltC(n:Nat):V->Bool |.fn _ caps=>caps.all (ltK n)|.ifc _ vs=>vs.all (ltK n)|v=>ltK n v
def ltA(n:Nat):V->Bool |.agg cs=>cs.all (ltC n)|v=>ltC n v
def ltS(n:Nat):V->Bool |.tup vs=>vs.all (ltA n)|v=>ltA n v
def ltOb(n:Nat):Ob->Bool |.box cells=>cells.all (ltC n)|.lst rows _=>rows.all λr=>r.all (ltC n)|.mp kvs _ _=>kvs.all (ltA n)|.it m _ _ _=>(match m with|some id=>decide (id<n)|none=>true)|_=>true
theorem wK{α:Type}{f:α->α}{p:α->Bool}(h:∀a,p a=true->f a=a):∀{l:List α},l.all p=true->l.map f=l
 |[],_=>rfl|a::l,q=>by simp only[Ap,A6]at q;rw[Al,h a q.1,wK h q.2]
section
variable {ρ:Nat->Nat}
theorem xe3{v:V}(h:noK v=true):renK ρ v=v:=by cases v with
 |sl g rows=>cases g<;>first|rfl|simp[noK]at h
 |_=>first|rfl|simp[noK]at h
theorem zF3{v:V}(h:noC v=true):renC ρ v=v:=by cases v with
 |fn f caps=>simp only[renC];rw[wK (λ_=>xe3) h]|ifc t v=>simp only[renC];rw[wK (λ_=>xe3) h]|sl g rows=>cases g<;>first|rfl|simp[noC,noK]at h
 |_=>first|rfl|simp[noC,noK]at h
theorem yB0{v:V}(h:noA v=true):renA ρ v=v:=by cases v with
 |agg cs=>simp only[renA];rw[wK (λ_=>zF3) h]|fn f caps=>exact zF3 (v:=.fn f caps) h|ifc t v=>exact zF3 (v:=.ifc t v) h|sl g rows=>cases g<;>first|rfl|simp[noA,noC,noK]at h
 |_=>first|rfl|simp[noA,noC,noK]at h
theorem zz1{v:V}(h:noS v=true):renS ρ v=v:=by cases v with
 |tup vs=>simp only[renS];rw[wK (λ_=>yB0) h]|agg cs=>exact yB0 (v:=.agg cs) h|fn f caps=>exact zF3 (v:=.fn f caps) h|ifc t v=>exact zF3 (v:=.ifc t v) h|sl g rows=>cases g<;>first|rfl|simp[noS,noA,noC,noK]at h
 |_=>first|rfl|simp[noS,noA,noC,noK]at h
variable{n:Nat}(hρ:∀i,i<n->ρ i=i)
include hρ
theorem zy9{v:V}(h:ltK n v=true):renK ρ v=v:=by cases v with
 |sl g rows=>cases g with|app id=>simp only[ltK,decide_eq_true_eq]at h;simp only[renK,hρ id h]|_=>rfl
 |ptr id off=>simp only[ltK,decide_eq_true_eq]at h;simp only[renK,hρ id h]|lsv id s n lo m=>simp only[ltK,decide_eq_true_eq]at h;simp only[renK,hρ id h]|lsp id s n k j=>simp only[ltK,decide_eq_true_eq]at h;simp only[renK,hρ id h]|bsv id s off n=>simp only[ltK,decide_eq_true_eq]at h;simp only[renK,hρ id h]|mp id=>simp only[ltK,decide_eq_true_eq]at h;simp only[renK,hρ id h]|_=>first|rfl|simp[ltK]at h
theorem zc8{v:V}(h:ltC n v=true):renC ρ v=v:=by cases v with |fn f caps=>simp only[renC];rw[wK (λ_=>zy9 hρ) h]|ifc t v=>simp only[renC];rw[wK (λ_=>zy9 hρ) h]|sl g rows=>have:=zy9 hρ (v:=.sl g rows) h;cases g<;>exact this|ptr id off=>exact zy9 hρ (v:=.ptr id off) h|lsv id s' n' lo m=>exact zy9 hρ (v:=.lsv id s' n' lo m) h|lsp id s' n' k j=>exact zy9 hρ (v:=.lsp id s' n' k j) h|bsv id s' off n'=>exact zy9 hρ (v:=.bsv id s' off n') h|mp id=>exact zy9 hρ (v:=.mp id) h|_=>first|rfl|simp[ltC,ltK]at h
theorem yc4{v:V}(h:ltA n v=true):renA ρ v=v:=by cases v with |agg cs=>simp only[renA];rw[wK (λ_=>zc8 hρ) h]|fn f caps=>exact zc8 hρ (v:=.fn f caps) h|ifc t v=>exact zc8 hρ (v:=.ifc t v) h|sl g rows=>have:=zc8 hρ (v:=.sl g rows) h;cases g<;>exact this|ptr id off=>exact zc8 hρ (v:=.ptr id off) h|lsv id s' n' lo m=>exact zc8 hρ (v:=.lsv id s' n' lo m) h|lsp id s' n' k j=>exact zc8 hρ (v:=.lsp id s' n' k j) h|bsv id s' off n'=>exact zc8 hρ (v:=.bsv id s' off n') h|mp id=>exact zc8 hρ (v:=.mp id) h|_=>first|rfl|simp[ltA,ltC,ltK]at h
theorem yB1{v:V}(h:ltS n v=true):renS ρ v=v:=by cases v with |tup vs=>simp only[renS];rw[wK (λ_=>yc4 hρ) h]|agg cs=>exact yc4 hρ (v:=.agg cs) h|fn f caps=>exact zc8 hρ (v:=.fn f caps) h|ifc t v=>exact zc8 hρ (v:=.ifc t v) h|sl g rows=>have:=yc4 hρ (v:=.sl g rows) h;cases g<;>exact this|ptr id off=>exact zc8 hρ (v:=.ptr id off) h|lsv id s' n' lo m=>exact zc8 hρ (v:=.lsv id s' n' lo m) h|lsp id s' n' k j=>exact zc8 hρ (v:=.lsp id s' n' k j) h|bsv id s' off n'=>exact zc8 hρ (v:=.bsv id s' off n') h|mp id=>exact zc8 hρ (v:=.mp id) h|_=>first|rfl|simp[ltS,ltA,ltC,ltK]at h
theorem wL{o:Ob}(h:ltOb n o=true):yC ρ o=o:=by cases o with
 |box cells=>simp only[yC];rw[wK (λ_=>zc8 hρ) h]|lst rows s=>simp only[yC];rw[wK (λ_ q=>wK (λ_=>zc8 hρ) q) h]|mp kvs borns clk=>simp only[yC];rw[wK (λ_=>yc4 hρ) h]|it m since seen last=>cases m with |none=>rfl|some id=>simp only[ltOb,decide_eq_true_eq]at h;simp only[yC,B9,hρ id h]
 |_=>rfl
end
theorem zf3{n N i:Nat}(h:i<n):ren (List.range n) N i=i:=by rw[wQ (by simpa using h)];simp
theorem yt1{n0:Nat}{s loc:St}(hok:s.all (ltOb s.length)=true)(hn:n0<=s.length):Picks n0 (List.range s.length) (s++loc) s:=by
 refine⟨sm,C5,λi j o hi ho=>?_,λi hi=>?_⟩
 .obtain⟨hl,hj⟩:=A1.1 hi;simp at hj hl;subst hj;have:ltOb s.length o=true:=by rw[Af]at hok;exact hok o (Ax.2 ⟨i,ho⟩)
  rw[wL (λk hk=>zf3 hk) this,Aa hl];exact ho
 .rw[Co om]
theorem zD{ρ:Nat->Nat}{v:V}(h:noS v=true):argS ρ v v:=.inl (zz1 h).symm
theorem zQ{ρ:Nat->Nat}{g:Tag}{rows:List (List V)}:argS ρ (.sl .ro rows) (.sl g rows):=.inr (.inr (.inl ⟨g,rows,rfl,rfl⟩))
theorem zq2{n N:Nat}{v:V}(h:ltS n v=true):argS (ren (List.range n) N) v v:=.inl (yB1 (λ_ hk=>zf3 hk) h).symm
theorem yA{ρ:Nat->Nat}:∀{l:List V},l.all noS=true->All2 (argS ρ) l l
 |[],_=>trivial|v::l,h=>by simp only[Ap,A6]at h;exact⟨zD h.1,yA h.2⟩
section
variable{P:Program}{c:Ctx}{nt:Nat}{e:Env}{σ:St}{K:KT}{Q:QT}{d:Option Tmp}{R:V->St->Prop}{rs:List ResultVar}{n0:Nat}
def wret(v:Option V)(n0:Nat)(R:V->St->Prop)(σ:St):Prop:=∃x,v=some x/\VRet n0 R x σ
@[go_sem]theorem retQ_ret:retQ P rs n0 R .ret e σ=wret (retV P rs e σ) n0 R σ:=id rfl
@[go_sem]theorem retQ_normal:retQ P rs n0 R .normal e σ=wret (retV P rs e σ) n0 R σ:=id rfl
attribute [go_sem] retV yt5 zP4
theorem wA{v r:V}(hr:argS (ren [] σ.length) r v)(hR:R r []):wret (some v) 0 R σ:=⟨v,rfl,v,σ,[],[],r,.refl _ _,⟨rfl,D0,λi j o h=>by simp at h,λi h=>absurd h (Bg i)⟩,hr,hR⟩
theorem zx4(k:Nat){v r:V}(hk:(σ.take k).length=k)(hok:(σ.take k).all (ltOb k)=true)(hn:n0<=k)(hr:argS (ren (List.range k) σ.length) r v)(hR:R r (σ.take k)):wret (some v) n0 R σ:=by have h1:σ.take k++σ.drop k=σ:=Bq k σ;have hp:=yt1 (n0:=n0) (s:=σ.take k) (loc:=σ.drop k) (by rw[hk];exact hok) (by rw[hk];exact hn);rw[h1,hk]at hp;exact⟨v,rfl,v,σ,_,σ.take k,r,.refl _ _,hp,hr,hR⟩
theorem yQ1(id s:Nat)(rows:List (List V)){v:V}(hσ:σ[id]?=some (.lst rows s))(hp:xQ rows=true)(h:wret (some (frzS id rows v)) n0 R (zn3 id rows σ)):wret (some v) n0 R σ:=by obtain⟨x,hx,v1,σ1,pick,σ',r,hf,hr⟩:=h;cases hx;exact⟨v,rfl,v1,σ1,pick,σ',r,.step id s rows hσ hp hf,hr⟩
abbrev Pure(P:Program)(f:FuncId)(args:List V)(v:V):Prop:=VCalls P f args [] λr s=>r=v/\s=[]
theorem zJ{f:FuncId}{caps args args':List V}{v:V}{KV:V->St->Prop}(hc:Pure P f args' v)(hb:wG P f=true)(aa:All2 (argS (ren [] σ.length)) args' (args++caps))(hn:noS v=true)(hk:KV v σ):wVC P c (.fn f caps) args σ KV fx:=by
 refine VC.of hc hb [] D0 rfl (λi j o h=>by simp at h) aa ?_;rintro r σ' ⟨rfl,rfl⟩_;rw[zz1 hn];have:xC [] σ []=σ:=by simp[xC,mset]
 rw[this];exact hk
theorem xP5{f:FuncId}{caps args args':List V}{o:Ob}{i:Nat}{KV:V->St->Prop}{R:V->St->Prop}(hc:VCalls P f args' [o] R)(hb:wG P f=true)(ho:σ[i]?=some o)(ab:ltOb 0 o=true)(aa:All2 (argS (ren [i] σ.length)) args' (args++caps))(hk:∀r σ',R r σ'->1<=σ'.length->KV (renS (ren [i] σ.length) r) (xC [i] σ σ')):wVC P c (.fn f caps) args σ KV fx:=by refine VC.of hc hb [i] sm rfl (λk j o' h1 h2=>?_) aa hk;cases k with |zero=>simp at h1 h2;subst h1;subst h2;rw[wL (n:=0) (λ_ h=>absurd h (Bg _)) ab];exact ho|succ k=>simp at h1
end
def ze6:Op->Nat |.move _|.assign _|.pick ..|.build ..|.buildSlice ..|.nilCheck _|.binOp ..|.unOp ..|.convert ..|.slice ..|.fieldAddr ..|.field ..|.indexAddr ..|.index ..|.extract ..|.makeFunc ..=>0|.call ⟨.builtin .len,_,_⟩|.call ⟨.builtin .min,_,_⟩|.call ⟨.builtin .max,_,_⟩=>0|.load ..=>1|.alloc ..|.box ..=>3|_=>4
def zT(q:List (Nat×Nat))(i:Nat)(o:Oper):Nat:=match q.find? (·.1==i)with|some p=>min p.2 4|none=>ze6 o.op
structure Kp where
 x:Nat
 n:Nat
 ex:List Nat
 ob:Option (Nat×(Ob->R))
abbrev Kp.pre(n:Nat):Kp:=⟨0,n,[],none⟩
def Kp.has(k:Kp)(id:Nat):Bool:=decide (k.x<=id)&&decide (id<k.n)&&!k.ex.contains id
@[go_sem]theorem Kp.has_pre{n id:Nat}:(Kp.mk 0 n [] none).has id=decide (id<n):=by simp[Kp.has]
@[go_sem]theorem Kp.has_but{x n id:Nat}:(Kp.mk (x+1) n [] none).has id=(decide (x+1<=id)&&decide (id<n)):=by simp[Kp.has]
def Kp.of(k:Kp)(σ:St):St×Option R:=(((σ.take k.n).mapIdx λi o=>if k.ex.contains i then .dead else o).drop k.x,k.ob.bind λp=>((σ.take k.n)[p.1]?).map p.2)
theorem Kp.get{k:Kp}{id:Nat}{σ S:St}(h:k.has id=true)(ht:k.of σ=k.of S):σ[id]?=S[id]?:=by
 simp only[Kp.has,A6,decide_eq_true_eq,Cz]at h;obtain⟨⟨h1,h2⟩,h3⟩:=h;have e:∀τ:St,(k.of τ).1[id-k.x]?=τ[id]?:=λτ=>by unfold Kp.of;rw[B5,show k.x+(id-k.x)=id by omega,E5,Ae,if_pos h2];simp only[h3];cases τ[id]?<;>simp
 rw[<-e σ,<-e S,ht]
theorem Kp.of_append{k:Kp}{σ ext:St}(h:k.n<=σ.length):k.of (σ++ext)=k.of σ:=by unfold Kp.of;rw[Cx h]
theorem Kp.of_set{k:Kp}{σ:St}{id:Nat}{o:Ob}(h:(id<k.x/\k.ob=none)∨k.n<=id):k.of (σ.set id o)=k.of σ:=by
 unfold Kp.of;congr 1
 .refine Bx λi=>?_;rw[B5,B5,E5,E5,Ae,Ae];congr 1;by_cases q:k.x+i<k.n;.rw[if_pos q,if_pos q,Ad om]
  .rw[if_neg q,if_neg q]
 .rcases h with⟨_,h⟩|h;.rw[h];rfl
  .congr 1;funext p;congr 1;rw[Ae,Ae];split;.rw[Ad om]
   .rfl
theorem Kp.of_ex{k:Kp}{σ:St}{id:Nat}{o o':Ob}(hx:k.ex.contains id=true)(ho:σ[id]?=some o)(hk:∀p,k.ob=some p->p.1=id->p.2 o'=p.2 o):k.of (σ.set id o')=k.of σ:=by
 unfold Kp.of;congr 1
 .congr 1;refine Bx λi=>?_;rw[E5,E5,Ae,Ae];by_cases q1:i<k.n
  .rw[if_pos q1,if_pos q1];by_cases q:id=i;.subst q;obtain⟨hl,_⟩:=A1.1 ho;rw[Aj hl,ho];simp only[B9,hx,if_true]
   .rw[Ad q]
  .rw[if_neg q1,if_neg q1]
 .cases aa:k.ob with |none=>rfl|some p=>
   simp only[Aw];rw[Ae,Ae];split
   .by_cases q:p.1=id;.obtain⟨hl,_⟩:=A1.1 ho;rw[q,Aj hl,ho];simp only[B9];rw[hk p aa q]
    .rw[Ad (λh=>q h.symm)]
   .rfl
def zY8(a b:Nat):Bool:=(a==4&&b !=0)||(b==4&&a !=0)||(a==3&&(b==3||b==2))||(b==3&&a==2)
def zw3(ops:List Oper)(o:Oper):List Tmp:=(o.op.operands.toList.filterMap λ|.tmp t=>some t|_=>none)++(match o.guard with|some (j,_)=>(gdst ops j).toList|none=>[])++(o.dst.map (100000+·)).toList
def hok(P:Program)(d:Option Tmp)(e:Env)(op:Op):Prop:=ze4 e d=false∨∀e σ,za5 P e σ op=evOp P e σ op
theorem zp6{P:Program}{d:Option Tmp}{e:Env}{op:Op}(h:hok P d e op)(σ:St):xT P d e σ op=evOp P e σ op:=by
 unfold xT;rcases h with h|h;.rw[h];rfl
 .rw[h];simp
theorem yy4{d:Option Tmp}{e e':Env}(h:∀t,d=some t->e (100000+t)=e' (100000+t)):ze4 e d=ze4 e' d:=by cases d with|none=>rfl|some t=>simp only[ze4,h t rfl]
def befs:List Oper->List (List Nat)->List (List Nat) |[],acc=>acc|o::os,acc=>befs os (acc++[((o.after.toList.filter (Region.binds .any)).flatMap λe=>e.on::acc.getD e.on []).eraseDups])
def zM3(ops:List Oper)(q:List (Nat×Nat))(i j:Nat)(a b:Oper):Bool:=zY8 (zT q i a) (zT q j b)||(match a.dst with|some d=>(zw3 ops b).contains d||b.dst==some d|none=>false)||(match b.dst with|some d=>(zw3 ops a).contains d|none=>false)
def zz8(ops:List Oper)(q:List (Nat×Nat)):Bool:=let b:=befs ops []
 (List.range ops.length).all λj=>(List.range j).all λi=>match ops[i]?,ops[j]?with|some x,some y=>!zM3 ops q i j x y||(b.getD j []).contains i|_,_=>true
def zd2(ops:List Oper):Bool:=(List.range ops.length).all λj=>match ops[j]?with|some o=>o.after.all λe=>!Region.binds .any e||decide (e.on<j)|none=>true
section
variable{P:Program}{c:Ctx}{nt:Nat}{n0:Kp}
variable {σ:St}{e:Env}{e':Env}
theorem yY9(ops:List Oper)(D:Nat->Prop)(hD:∀(j:Nat) o,ops[j]?=some o->D j->∀e∈o.after.toList,Region.binds .any e=true->D e.on):∀(rest pre:List Oper)(acc:List (List Nat)),ops=pre++rest->acc.length=pre.length->(∀j l,acc[j]?=some l->D j->∀i∈l,D i)->∀j l,(befs rest acc)[j]?=some l->D j->∀i∈l,D i
 |[],_,acc,_,_,h=>h|o::rest,pre,acc,ad,hlen,h=>by
  rw[befs];refine yY9 ops D hD rest (pre++[o]) _ (by rw[ad];simp) (by simp[hlen]) λj l hj ae i hi=>?_;rcases getElem?_push hj with⟨_,hj⟩|⟨hj,hl⟩;.exact h j l hj ae i hi
  .have ag:j=pre.length:=om;rw[hl]at hi;have ab:=List.mem_eraseDups.1 hi;rw[List.mem_flatMap]at ab;obtain⟨e,he,ab⟩:=ab;rw[B1]at he;have ho:ops[j]?=some o:=by rw[ad,ag];simp
   have af:=hD j o ho ae e he.1 he.2;rcases Ag.1 ab with hq|hq;.rw[hq];exact af
   .rw[A7]at hq;cases aa:acc[e.on]?with |none=>rw[aa]at hq;simp at hq|some l'=>rw[aa]at hq;exact h e.on l' aa af i (by simpa using hq)
def imm(n0:Kp):V->Bool|.ptr id _=>n0.has id|.lsp id _ _ _ _=>n0.has id|_=>true
def KeepN(n0:Kp)(σ σ':St):Prop:=(∃ext,σ'=σ++ext)∨n0.of σ'=n0.of σ
theorem KeepN.refl{n0:Kp}:KeepN n0 σ σ:=.inr rfl
def Fact(P:Program)(c:Ctx)(nt:Nat)(n0:Kp)(ops:List Oper)(q:List (Nat×Nat))(i:Nat)(o:Oper)(e:Env)(σ:St)(v:V)(σ':St):Prop:=(∀t,o.dst=some t->t<nt)/\(zT q i o<3->σ'=σ)/\(zT q i o=3->KeepN n0 σ σ')/\σ.length<=σ'.length/\∃g:Bool,(match o.guard with|none=>g=true|some (j,want)=>∃t,gdst ops j=some t/\((∃b,e t=.bool b/\g=(b==want))∨(e t=.tup []/\g=false)))/\(if g then(match o.op with |.call ⟨.value f,args,_⟩=>(if zT q i o=0then∀s,VC P c (zF e f) (args.toList.map (zF e)) s (λr s'=>r=v/\s'=s)else if zT q i o=1then∀s,n0.of s=n0.of σ->VC P c (zF e f) (args.toList.map (zF e)) s (λr s'=>r=v/\s'=s)else VC P c (zF e f) (args.toList.map (zF e)) σ (λr s=>r=v/\s=σ'))|op=>(zT q i o<3->hok P o.dst e op)/\(zT q i o=0->ze6 op=0)/\(zT q i o=1->(∃t x,op=.load t x/\imm n0 (zF e x)=true)∨(∀t x,op≠.load t x)/\∀s,n0.of s=n0.of σ->evOp P e s op=evOp P e σ op)/\((xT P o.dst e σ op=.ok v/\σ'=σ)∨(∃p,xT P o.dst e σ op=.need p v/\p/\σ'=σ)∨(3<=zT q i o/\(xT P o.dst e σ op=.st v σ'∨∃p,xT P o.dst e σ op=.needst p v σ'/\p))))else v=.tup []/\σ'=σ)
def updO(e:Env)(d:Option Tmp)(v:V):Env:=match d with|some t=>upd e t v|none=>e
def zv3(P:Program)(c:Ctx)(nt:Nat)(n0:Kp)(ops:List Oper)(q:List (Nat×Nat)):Nat->List Oper->Env->St->List (V×St)->Prop |_,[],_,_,[]=>True|i,o::os,e,σ,(v,σ')::tr=>Fact P c nt n0 ops q i o e σ v σ'/\zv3 P c nt n0 ops q (i+1) os (updO e o.dst v) σ' tr|_,_,_,_,_=>False
def fE(D:Nat->Bool):Nat->List Oper->List (V×St)->Env->Env |i,o::os,(v,_)::tr,e=>fE D (i+1) os tr (if D i then updO e o.dst v else e)|_,_,_,e=>e
def fS(D:Nat->Bool)(q:List (Nat×Nat)):Nat->List Oper->List (V×St)->St->St |i,o::os,(_,σ')::tr,s=>fS D q (i+1) os tr (if D i&&decide (3<=zT q i o)then σ' else s)|_,_,_,s=>s
theorem zk0(e:Env)(d:Option Tmp)(v:V)(t:Tmp)(h:d=some t):updO e d v t=v:=by subst h;simp[updO,upd]
theorem zg5(e:Env)(d:Option Tmp)(v:V)(t:Tmp)(h:d≠some t):updO e d v t=e t:=by cases d with|none=>rfl|some d=>simp only[updO,upd];rw[if_neg (λq=>h (by rw[q]))]
theorem zf2(D D':Nat->Bool)(t:Tmp):∀(os:List Oper)(tr:List (V×St))(i:Nat)(e e':Env),e t=e' t->(∀(k:Nat) o,os[k]?=some o->o.dst=some t->D (i+k)=D' (i+k))->fE D i os tr e t=fE D' i os tr e' t
 |[],_,_,_,_,h,_=>by simpa[fE]using h|o::os,[],_,_,_,h,_=>by simpa[fE]using h|o::os,(v,s)::tr,i,e,e',h,hD=>by
  rw[fE,fE];refine zf2 D D' t os tr (i+1) _ _ ?_ (λk o' hk hd=>by have:=hD (k+1) o' (by simpa using hk) hd;rwa[show i+(k+1)=i+1+k by omega]at this);by_cases hd:o.dst=some t
  .have:=hD 0 o rfl hd;rw[Cg]at this;rw[this];split;.rw[zk0 _ _ _ _ hd,zk0 _ _ _ _ hd]
   .exact h
  .have e1:(if D i=true then updO e o.dst v else e) t=e t:=by split<;>simp[zg5 _ _ _ _ hd]
   have e2:(if D' i=true then updO e' o.dst v else e') t=e' t:=by split<;>simp[zg5 _ _ _ _ hd]
   rw[e1,e2,h]
theorem yb3(D:Nat->Bool)(t:Tmp)(os:List Oper)(tr:List (V×St))(i:Nat)(e:Env)(h:∀(k:Nat) o,os[k]?=some o->o.dst=some t->D (i+k)=false):fE D i os tr e t=e t:=by have h1:=zf2 D (λ_=>false) t os tr i e e rfl (λk o hk hd=>h k o hk hd);rw[h1];clear h h1;induction os generalizing tr i with|nil=>simp[fE]|cons o os ih=>cases tr with|nil=>simp[fE]|cons x tr=>obtain⟨v,s⟩:=x;rw[fE];simpa using ih tr (i+1)
theorem zD9(D:Nat->Bool)(t:Tmp):∀(os:List Oper)(tr:List (V×St))(i k:Nat)(e:Env)(o:Oper)(v:V)(s:St),os[k]?=some o->tr[k]?=some (v,s)->o.dst=some t->D (i+k)=true->(∀(k':Nat) o',k<k'->os[k']?=some o'->o'.dst=some t->D (i+k')=false)->fE D i os tr e t=v
 |[],_,_,_,_,_,_,_,h,_,_,_,_=>by simp at h|_::_,[],_,_,_,_,_,_,_,h,_,_,_=>by simp at h|o1::os,(v1,s1)::tr,i,0,e,o,v,s,h1,h2,hd,hD,hl=>by
  simp at h1 h2;obtain⟨rfl,rfl⟩:=h2;subst h1;rw[fE,if_pos (by simpa using hD),yb3];.exact zk0 _ _ _ _ hd
  .intro k o' hk aa;have:=hl (k+1) o' om (by simpa using hk) aa;rwa[show i+1+k=i+(k+1)by omega]|o1::os,(v1,s1)::tr,i,k+1,e,o,v,s,h1,h2,hd,hD,hl=>by rw[fE];refine zD9 D t os tr (i+1) k _ o v s (by simpa using h1) (by simpa using h2) hd (by rwa[show i+1+k=i+(k+1)by omega]) λk' o' ad ab aa=>?_;have:=hl (k'+1) o' om (by simpa using ab) aa;rwa[show i+1+k'=i+(k'+1)by omega]
theorem zi7(D D':Nat->Bool)(q:List (Nat×Nat)):∀(os:List Oper)(tr:List (V×St))(i:Nat)(s:St),(∀(k:Nat) o,os[k]?=some o->3<=zT q (i+k) o->D (i+k)=D' (i+k))->fS D q i os tr s=fS D' q i os tr s
 |[],_,_,_,_=>by simp[fS]|o::os,[],_,_,_=>by simp[fS]|o::os,(v,σ')::tr,i,s,h=>by
  rw[fS,fS];have e1:(if(D i&&decide (3<=zT q i o))=true then σ' else s)=(if(D' i&&decide (3<=zT q i o))=true then σ' else s):=by
   by_cases hk:3<=zT q i o;.have:=h 0 o rfl (by rw[Cg];exact hk);rw[Cg]at this;rw[this]
   .simp[hk]
  rw[e1];exact zi7 D D' q os tr (i+1) _ (λk o' hk hd=>by have:=h (k+1) o' (by simpa using hk) (by rwa[show i+(k+1)=i+1+k by omega]);rwa[show i+(k+1)=i+1+k by omega]at this)
theorem zy1(D:Nat->Bool)(q:List (Nat×Nat))(os:List Oper)(tr:List (V×St))(i:Nat)(s:St)(h:∀(k:Nat) o,os[k]?=some o->3<=zT q (i+k) o->D (i+k)=false):fS D q i os tr s=s:=by have h1:=zi7 D (λ_=>false) q os tr i s h;rw[h1];clear h h1;induction os generalizing tr i with |nil=>simp[fS]|cons o os ih=>cases tr with |nil=>simp[fS]|cons x tr=>obtain⟨v,s'⟩:=x;rw[fS];simpa using ih tr (i+1)
theorem zK8(D:Nat->Bool)(q:List (Nat×Nat)):∀(os:List Oper)(tr:List (V×St))(i k:Nat)(s:St)(o:Oper)(v:V)(σ':St),os[k]?=some o->tr[k]?=some (v,σ')->3<=zT q (i+k) o->D (i+k)=true->(∀(k':Nat) o',k<k'->os[k']?=some o'->3<=zT q (i+k') o'->D (i+k')=false)->fS D q i os tr s=σ'
 |[],_,_,_,_,_,_,_,h,_,_,_,_=>by simp at h|_::_,[],_,_,_,_,_,_,_,h,_,_,_=>by simp at h|o1::os,(v1,s1)::tr,i,0,s,o,v,σ',h1,h2,hd,hD,hl=>by simp at h1 h2;obtain⟨rfl,rfl⟩:=h2;subst h1;rw[Cg]at hd hD;rw[fS,if_pos (by simp[hd,hD]),zy1];intro k o' hk aa;have:=hl (k+1) o' om (by simpa using hk) (by rwa[show i+(k+1)=i+1+k by omega]);rwa[show i+1+k=i+(k+1)by omega]|o1::os,(v1,s1)::tr,i,k+1,s,o,v,σ',h1,h2,hd,hD,hl=>by rw[fS];refine zK8 D q os tr (i+1) k _ o v σ' (by simpa using h1) (by simpa using h2) (by rwa[show i+1+k=i+(k+1)by omega]) (by rwa[show i+1+k=i+(k+1)by omega]) λk' o' ad ab aa=>?_;have:=hl (k'+1) o' om (by simpa using ab) (by rwa[show i+(k'+1)=i+1+k' by omega]);rwa[show i+1+k'=i+(k'+1)by omega]
theorem zC4(ops:List Oper)(q:List (Nat×Nat)):∀(os:List Oper)(tr:List (V×St))(i:Nat)(e:Env)(σ:St),zv3 P c nt n0 ops q i os e σ tr->tr.length=os.length/\∀(k:Nat) o,os[k]?=some o->∃v σ',tr[k]?=some (v,σ')/\Fact P c nt n0 ops q (i+k) o (fE (λj=>decide (j<i+k)) i os tr e) (fS (λj=>decide (j<i+k)) q i os tr σ) v σ'
 |[],[],_,_,_,_=>⟨rfl,λk o h=>by simp at h⟩|[],_::_,_,_,_,h=>h.elim|_::_,[],_,_,_,h=>h.elim|o::os,(v,σ')::tr,i,e,σ,⟨hf,ht⟩=>by obtain⟨hl,ab⟩:=zC4 ops q os tr (i+1) _ _ ht;refine⟨by simp[hl],λk o' hk=>?_⟩;cases k with
  |zero=>
   simp at hk;subst hk;refine⟨v,σ',rfl,?_⟩;rw[Cg,fE,fS];have h1:(if(λj=>decide (j<i)) i=true then updO e o.dst v else e)=e:=sm;have h2:(if((λj=>decide (j<i)) i&&decide (3<=zT q i o))=true then σ' else σ)=σ:=sm;rw[h1,h2];have e1:fE (λj=>decide (j<i)) (i+1) os tr e=e:=by funext t;exact yb3 _ t os tr (i+1) e (λk o' _ _=>by simp;omega)
   have e2:fS (λj=>decide (j<i)) q (i+1) os tr σ=σ:=zy1 _ q os tr (i+1) σ (λk o' _ _=>by simp;omega);rw[e1,e2];exact hf|succ k=>
   obtain⟨v2,s2,h1,h2⟩:=ab k o' (by simpa using hk);refine⟨v2,s2,by simpa using h1,?_⟩;rw[show i+(k+1)=i+1+k by omega];rw[fE,fS,if_pos (by simp;omega)];have hs:(if((λj=>decide (j<i+1+k)) i&&decide (3<=zT q i o))=true then σ' else σ)=σ':=by
    by_cases aa:3<=zT q i o;.rw[if_pos (by simp[aa];omega)]
    .rw[if_neg (by simp[aa])];exact(hf.2.1 om).symm
   rw[hs];exact h2
theorem zO2(op:Op)(h:∀x∈op.operands.toList,zF e x=zF e' x):evOp P e σ op=evOp P e' σ op:=by
 have hl:∀l:List Operand,(∀x∈l,zF e x=zF e' x)->l.map (zF e)=l.map (zF e'):=λl hl=>Bn hl;have aa:∀ps:List (Nat×Operand),(∀x∈ps.map (·.2),zF e x=zF e' x)->(ps.map λp=>(p.1,zF e p.2))=(ps.map λp=>(p.1,zF e' p.2)):=λps hp=>Bn λp hm=>by rw[hp p.2 (Ac.2 ⟨p,hm,rfl⟩)]
 cases op with
 |build t ps=>simp only[evOp];rw[aa ps.toList (λx hx=>h x (by simpa[Op.operands]using hx))]|buildSlice t n ps=>simp only[evOp];rw[aa ps.toList (λx hx=>h x (by simpa[Op.operands]using hx))]|makeFunc fn first caps=>simp only[evOp];rw[hl caps.toList (λx hx=>h x (by simp only[Op.operands,Array.toList_append,Aq];exact .inr hx))]|slice t x lo hi mx=>cases lo<;>cases hi<;>cases mx<;>simp_all[evOp,Op.operands]|makeMap t r=>cases r<;>simp_all[evOp,Op.operands]|next x b=>cases b<;>simp_all[evOp,Op.operands]|call cl=>obtain⟨ab,args,ts⟩:=cl;cases ab with
  |builtin b=>
   have h':∀x∈args.toList,zF e x=zF e' x:=λx hx=>h x (by simpa[Op.operands,Call.operands]using hx);obtain⟨args⟩:=args;cases b<;>simp only[evOp];case min=>rw[hl args h']
   case max=>rw[hl args h']
   all_goals(split<;>simp_all)|_=>simp only[evOp]
 |_=>first|rfl|(simp_all[evOp,Op.operands];done)
theorem yH4(op:Op)(h:∀x∈op.operands.toList,zF e x=zF e' x):za5 P e σ op=za5 P e' σ op:=by
 have hc:=zO2 (P:=P) (σ:=σ) op h;have aa:∀ps:List (Nat×Operand),(∀x∈ps.map (·.2),zF e x=zF e' x)->(ps.map λp=>(p.1,zF e p.2))=(ps.map λp=>(p.1,zF e' p.2)):=λps hp=>Bn λp hm=>by rw[hp p.2 (Ac.2 ⟨p,hm,rfl⟩)]
 cases op with
 |buildSlice t n ps=>simp only[za5];rw[aa ps.toList (λx hx=>h x (by simpa[Op.operands]using hx))]|makeSlice t l m=>simp_all[za5,Op.operands]|convert t t' x=>simp_all[za5,Op.operands]|slice t x lo hi mx=>cases lo with|none=>exact hc|some lo=>cases hi with |some _=>exact hc|none=>cases mx with |some _=>exact hc|none=>simp_all[za5,Op.operands]
 |next x b=>cases b<;>simp_all[za5,Op.operands]|call cl=>obtain⟨ab,args,ts⟩:=cl;cases ab with
  |builtin b=>
   have h':∀x∈args.toList,zF e x=zF e' x:=λx hx=>h x (by simpa[Op.operands,Call.operands]using hx);obtain⟨args⟩:=args;cases b;case append=>simp only[za5];split<;>simp_all
   all_goals exact hc|_=>exact hc
 |_=>exact hc
theorem yH3{d:Option Tmp}(op:Op)(hd:ze4 e d=ze4 e' d)(h:∀x∈op.operands.toList,zF e x=zF e' x):xT P d e σ op=xT P d e' σ op:=by unfold xT;rw[hd,zO2 op h,yH4 op h]
theorem xt5{σ':St}(o:Oper)(hc:∀f az ts,o.op≠.call ⟨.value f,az,ts⟩)(h:ze6 o.op=0):evOp P e σ o.op=evOp P e σ' o.op:=by obtain⟨dst,op,ty,pos,aft,g⟩:=o;simp only at h hc⊢;cases op with
 |call cl=>obtain⟨aa,args,ts⟩:=cl;cases aa with
  |builtin b=>obtain⟨args⟩:=args;cases b<;>first|(simp[ze6]at h;done)|(simp only[evOp];done)|(simp only[evOp];split<;>first|rfl|contradiction|(rename_i heq;simp at heq))
  |value f=>exact absurd rfl (hc f args ts)|_=>simp only[evOp]
 |slice t x lo hi mx=>cases lo<;>cases hi<;>cases mx<;>rfl|_=>first|rfl|(simp[ze6]at h;done)
section
variable{e:Env}{σ:St}{a:Act}{w:World}{L:Nat->Nat}{β:List Value}
theorem zT3{ops:List Oper}{Q:Exit->Act->World->Prop}{next:Act->World->Prop}(o:Oper){K:Env->St->Prop}(h:Sim c nt e σ a w L β)(hK:vgd o.guard ops e (vop P c nt o.dst o.op K e σ) (vput nt o.dst (.tup []) K e σ))(hn:∀e' σ' a' w' L' β',Sim c nt e' σ' a' w' L' β'->K e' σ'->next a' w'):if Region.wanted o (yielded ops.toArray a.tmps)then o.wp P a w next Q∨(o.asks P a w/\LetsOut Q)else next (a.put o.dst undef) w:=by
 have no:vput nt o.dst (.tup []) K e σ->next (a.put o.dst undef) w:=λhv=>by obtain⟨e',hs,hk⟩:=zC5 h h.mem (Le.refl _ _) (Ext.refl _ _) (show RdS w L σ β (.tup []) undef from⟨[],rfl,tV⟩) hv;exact hn _ _ _ _ _ _ hs hk
 unfold vgd at hK;split at hK;.rename_i hg;rw[if_pos (by simp[Region.wanted,hg])];exact .inl (yC6 o h hK hn)
 .rename_i j want hg;split at hK
  .rename_i t ht;have hv:=h.env t;unfold vgrd at hK;split at hK
   .rename_i b hb;rw[hb]at hv;have hv:=zd8 hv;have hy:yielded ops.toArray a.tmps j=some b:=by
     unfold yielded;unfold gdst at ht;have ad:(ops.toArray[j]?).bind (·.dst)=some t:=by simpa using ht
     rw[ad];simp only[Aw];have ab:t<a.tmps.size:=by
      rcases Cl t a.tmps.size with q|q;.exact q
      .simp[Array.getD,Nat.not_lt.2 q,undef]at hv
     rw[Au ab];simp[Array.getD,ab]at hv;rw[hv]
    by_cases aa:b=want;.rw[if_pos (by simp[Region.wanted,hg,hy,aa])];exact .inl (yC6 o h (hK.1 aa) hn)
    .rw[if_neg (by simp[Region.wanted,hg,hy,aa])];exact no (hK.2 aa)
   .rename_i hb;rw[hb]at hv;rw[if_neg (by simp[Region.wanted,hg,ya4 ht hv])];exact no hK
   .exact hK.elim
  .exact hK.elim
theorem zs4{d:Option Tmp}{v:V}{K:Env->St->Prop}(hd:∀t,d=some t->t<nt)(h:K (updO e d v) σ):vput nt d v K e σ:=by cases d with|none=>exact h|some t=>exact⟨hd t rfl,h⟩
theorem yR7{t:TypeId}{S:St}{x:V}(h:imm n0 x=true)(ht:n0.of σ=n0.of S):zi4 P t σ x=zi4 P t S x:=by cases x with|ptr id off=>have:σ[id]?=S[id]?:=Kp.get h ht;simp only[zi4,this]|lsp id s n k j=>have:σ[id]?=S[id]?:=Kp.get h ht;simp only[zi4,this]|_=>rfl
theorem Fact.step{ops:List Oper}{q:List (Nat×Nat)}{i:Nat}{o:Oper}{E:Env}{S:St}{v:V}{σ':St}(hf:Fact P c nt n0 ops q i o E S v σ')(he:∀t∈zw3 ops o,e t=E t)(hs:2<=zT q i o->σ=S)(h1:zT q i o=1->n0.of σ=n0.of S):vgd o.guard ops e (vop P c nt o.dst o.op (λe' s'=>e'=updO e o.dst v/\s'=if 3<=zT q i o then σ' else σ) e σ) (vput nt o.dst (.tup []) (λe' s'=>e'=updO e o.dst v/\s'=if 3<=zT q i o then σ' else σ) e σ):=by
 obtain⟨hd,ar,_,_,g,hg,hb⟩:=hf;have ab:∀x∈o.op.operands.toList,zF e x=zF E x:=λx hx=>by cases x with |tmp t=>exact he t (Di _ (Di _ (List.mem_filterMap.2 ⟨.tmp t,hx,rfl⟩)))|_=>rfl
 have keep:σ'=S->(if 3<=zT q i o then σ' else σ)=σ:=λh=>by
  split;.rename_i h2;rw[h];exact(hs om).symm
  .rfl
 have yes:g=true->vop P c nt o.dst o.op (λe' s'=>e'=updO e o.dst v/\s'=if 3<=zT q i o then σ' else σ) e σ:=by
  intro au;rw[if_pos au]at hb;unfold vop;split
  .rename_i f args ts ad;rw[ad]at hb ab;simp only at hb;have av:=h1;have h1:zF e f=zF E f:=ab f (by simp[Op.operands,Call.operands]);have h2:args.toList.map (zF e)=args.toList.map (zF E):=Bn λx hx=>ab x (by simp[Op.operands,Call.operands];exact .inr (by simpa using hx));rw[h1,h2];split at hb;.rename_i aw;refine(hb σ).mono ?_;rintro x s' ⟨rfl,rfl⟩;exact zs4 hd ⟨rfl,by rw[if_neg om]⟩
   .rename_i aw;split at hb;.rename_i aa;refine(hb σ (av aa)).mono ?_;rintro x s' ⟨rfl,rfl⟩;exact zs4 hd ⟨rfl,by rw[if_neg om]⟩
    rename_i aa;rw[hs om];refine hb.mono ?_;rintro x s' ⟨rfl,rfl⟩;refine zs4 hd ⟨rfl,?_⟩;split;.rfl
    .rename_i h2;exact ar om
  .rename_i an;have af:(zT q i o<3->hok P o.dst E o.op)/\(zT q i o=0->ze6 o.op=0)/\(zT q i o=1->(∃t x,o.op=.load t x/\imm n0 (zF E x)=true)∨(∀t x,o.op≠.load t x)/\∀s,n0.of s=n0.of S->evOp P E s o.op=evOp P E S o.op)/\((xT P o.dst E S o.op=.ok v/\σ'=S)∨(∃p,xT P o.dst E S o.op=.need p v/\p/\σ'=S)∨(3<=zT q i o/\(xT P o.dst E S o.op=.st v σ'∨∃p,xT P o.dst E S o.op=.needst p v σ'/\p))):=by
    split at hb;.rename_i f args ts ad;exact absurd ad (an f args ts)
    .exact hb
   obtain⟨hh,hz,ho,af⟩:=af;have ao:ze4 e o.dst=ze4 E o.dst:=yy4 λt ht=>he (100000+t) (by unfold zw3;rw[ht];exact List.mem_append_right _ sm);have ag:xT P o.dst e σ o.op=xT P o.dst E S o.op:=by
    by_cases h3:zT q i o<3
    .have ah:=hh h3;have ax:hok P o.dst e o.op:=by unfold hok at ah⊢;rw[ao];exact ah
     rw[zp6 ax,zp6 ah,zO2 o.op ab];by_cases h0:zT q i o=0;.exact xt5 o an (hz h0)
     .by_cases aa:zT q i o=1
      .rcases ho aa with⟨t,x,ad,ai⟩|⟨_,ai⟩;.rw[ad];exact yR7 ai (h1 aa)
       .exact ai σ (h1 aa)
      .rw[hs om]
    .rw[yH3 o.op ao ab,hs om]
   rw[ag];rcases af with⟨hr,hq⟩|⟨p,hr,hp,hq⟩|⟨h2,hr|⟨p,hr,hp⟩⟩;.rw[hr];exact zs4 (K:=(λe' s'=>e'=updO e o.dst v/\s'=if 3<=zT q i o then σ' else σ)) hd ⟨rfl,(keep hq).symm⟩
   .rw[hr];exact⟨hp,zs4 (K:=(λe' s'=>e'=updO e o.dst v/\s'=if 3<=zT q i o then σ' else σ)) hd ⟨rfl,(keep hq).symm⟩⟩
   .rw[hr];show vput nt o.dst v (λe' s'=>e'=updO e o.dst v/\s'=if 3<=zT q i o then σ' else σ) e σ';exact zs4 (K:=(λe' s'=>e'=updO e o.dst v/\s'=if 3<=zT q i o then σ' else σ)) hd ⟨rfl,by rw[if_pos h2]⟩
   .rw[hr];show p/\vput nt o.dst v (λe' s'=>e'=updO e o.dst v/\s'=if 3<=zT q i o then σ' else σ) e σ';exact⟨hp,zs4 (K:=(λe' s'=>e'=updO e o.dst v/\s'=if 3<=zT q i o then σ' else σ)) hd ⟨rfl,by rw[if_pos h2]⟩⟩
 have no:g=false->vput nt o.dst (.tup []) (λe' s'=>e'=updO e o.dst v/\s'=if 3<=zT q i o then σ' else σ) e σ:=by intro ay;rw[if_neg (by simp[ay])]at hb;obtain⟨rfl,hq⟩:=hb;exact zs4 hd ⟨rfl,(keep hq).symm⟩
 unfold vgd;split;.rename_i az;rw[az]at hg;exact yes hg
 .rename_i j want aq;rw[aq]at hg;obtain⟨t,ht,aj⟩:=hg;rw[ht];simp only;have:e t=E t:=he t (Di _ (List.mem_append_right _ (by rw[aq];simp[ht])));rcases aj with⟨b,ak,ae⟩|⟨ak,ae⟩;.rw[this,ak];exact⟨λal=>yes (by simp[ae,al]),λal=>no (by simp[ae,al])⟩
  .rw[this,ak];exact no ae
end
variable{ops:List Oper}{q:List (Nat×Nat)}{i:Nat}{j:Nat}{tr:List (V×St)}
theorem yS{a b:Oper}(h:zM3 ops q i j a b=false):zY8 (zT q i a) (zT q j b)=false/\(∀d,a.dst=some d->d∉zw3 ops b/\b.dst≠some d)/\(∀d,b.dst=some d->d∉zw3 ops a):=by
 unfold zM3 at h;simp only[Bool.or_eq_false_iff]at h;obtain⟨⟨h1,h3⟩,h4⟩:=h;refine⟨h1,λd hd=>?_,λd hd=>?_⟩;.rw[hd]at h3;simp at h3;exact⟨h3.1,h3.2⟩
 .rw[hd]at h4;simpa using h4
theorem wI(q:List (Nat×Nat))(i:Nat)(o:Oper):zT q i o<=4:=by
 unfold zT;split;.exact Er _ _
 .unfold ze6;split<;>decide
theorem zn4{a b:Nat}(ha:3<=a)(aa:a<=4)(hb:2<=b)(ab:b<=4):zY8 a b=true:=by have h1:a=3∨a=4:=om;have h2:b=2∨b=3∨b=4:=om;rcases h1 with rfl|rfl<;>rcases h2 with rfl|rfl|rfl<;>rfl
theorem zE2(a b:Nat):zY8 a b=zY8 b a:=by unfold zY8;cases h1:a==4<;>cases h2:b==4<;>cases h3:a==3<;>cases h4:b==3<;>cases h5:a==2<;>cases h6:b==2<;>cases h7:a==0<;>cases h8:b==0<;>simp_all
theorem zE3{b:Nat}(hb:1<=b):zY8 4 b=true:=by unfold zY8;simp;omega
theorem yY4{e0:Env}{σ0:St}(ht:zv3 P c nt n0 ops q 0 ops e0 σ0 tr)(hn:n0.n<=σ0.length):∀(d j:Nat),j+d<=ops.length->(∀(m:Nat) o,j<=m->m<j+d->ops[m]?=some o->zT q m o≠4)->n0.n<=(fS (λx=>decide (x<j)) q 0 ops tr σ0).length/\n0.of (fS (λx=>decide (x<j+d)) q 0 ops tr σ0)=n0.of (fS (λx=>decide (x<j)) q 0 ops tr σ0):=by
 obtain⟨_,ab⟩:=zC4 ops q ops tr 0 e0 σ0 ht;have next:∀k,k<ops.length->∃o v σ',ops[k]?=some o/\Fact P c nt n0 ops q k o (fE (λj=>decide (j<k)) 0 ops tr e0) (fS (λj=>decide (j<k)) q 0 ops tr σ0) v σ'/\fS (λj=>decide (j<k+1)) q 0 ops tr σ0=σ':=by
  intro k hk;obtain⟨v,σ',ad,hf⟩:=ab k ops[k] (A0 hk);rw[Ab]at hf;refine⟨ops[k],v,σ',A0 hk,hf,?_⟩;by_cases h3:3<=zT q k ops[k];.refine zK8 _ q ops tr 0 k σ0 ops[k] v σ' (A0 hk) ad (by rw[Ab];exact h3) sm λk' o' af _ _=>by simp;omega
  .have:=hf.2.1 om;rw[this];refine zi7 _ _ q ops tr 0 σ0 λm o' hm aa=>?_;rw[Ab]at aa⊢;by_cases ae:m=k;.subst ae;rw[A0 hk]at hm;cases hm;exact absurd aa h3
   .simp;omega
 have len:∀j,j<=ops.length->n0.n<=(fS (λx=>decide (x<j)) q 0 ops tr σ0).length:=by intro j;induction j with |zero=>intro _;rw[zy1 _ q ops tr 0 σ0 (λk o _ _=>sm)];exact hn|succ j ih=>intro hj;obtain⟨o,v,σ',_,hf,he⟩:=next j om;rw[he];exact B3 (ih om) hf.2.2.2.1
 intro d;induction d with |zero=>intro j hj _;exact⟨len j om,rfl⟩|succ d ih=>
  intro j hj h4;obtain⟨h1,h2⟩:=ih j om (λm o h5 h6=>h4 m o h5 om);refine⟨h1,?_⟩;obtain⟨o,v,σ',ho,hf,he⟩:=next (j+d) om;rw[show j+(d+1)=j+d+1by omega,he,<-h2];have ag:=h4 (j+d) o om om ho;have hle:=wI q (j+d) o;by_cases h3:zT q (j+d) o=3
  .rcases hf.2.2.1 h3 with⟨ext,hx⟩|hx;.rw[hx,Kp.of_append (len (j+d) om)]
   .rw[hx]
  .rw[hf.2.1 om]
theorem zd6(h:zz8 ops q=true){x y:Oper}(aa:i<j)(hx:ops[i]?=some x)(hy:ops[j]?=some y):zM3 ops q i j x y=false∨i∈(befs ops []).getD j []:=by unfold zz8 at h;simp only[Af,Cj]at h;have:=h j (A1.1 hy).1 i aa;rw[hx,hy]at this;simp only[Bv,Cz,List.contains_iff_mem]at this;exact this
theorem zi2{D:Nat->Bool}(hD:∀(j:Nat) o,ops[j]?=some o->D j=true->∀e∈o.after.toList,Region.binds .any e=true->D e.on=true)(hi:i∈(befs ops []).getD j [])(hj:D j=true):D i=true:=by rw[A7]at hi;cases hb:(befs ops [])[j]?with |none=>rw[hb]at hi;simp at hi|some l=>rw[hb]at hi;exact yY9 ops (λk=>D k=true) hD ops [] [] rfl rfl (λj l h=>by simp at h) j l hb hj i (by simpa using hi)
theorem yp8{l:Array Bool}(h:l[i]?=some false):(l.setIfInBounds i true).toList.count false+1=l.toList.count false:=by obtain⟨l⟩:=l;simp only[List.getElem?_toArray,List.setIfInBounds_toArray]at h⊢;induction l generalizing i with|nil=>simp at h|cons b l ih=>cases i with|zero=>simp at h;subst h;simp|succ i=>simp at h;have:=ih h;simp only[Ca,List.count_cons];omega
theorem yv8{Q:Exit->Env->St->Prop}{e0:Env}{σ0:St}(hn:n0.n<=σ0.length)(hd:zz8 ops q=true)(av:zd2 ops=true)(ht:zv3 P c nt n0 ops q 0 ops e0 σ0 tr)(hQ:Q .normal (fE (λ_=>true) 0 ops tr e0) (fS (λ_=>true) q 0 ops tr σ0)):∀(fuel:Nat)(listed:Array Bool)(a:Act)(w:World)(L:Nat->Nat)(β:List Value),listed.size=ops.length->listed.toList.count false=fuel->(∀(j:Nat) o,ops[j]?=some o->listed.getD j false=true->∀e∈o.after.toList,Region.binds .any e=true->listed.getD e.on false=true)->Sim c nt (fE (λi=>listed.getD i false) 0 ops tr e0) (fS (λi=>listed.getD i false) q 0 ops tr σ0) a w L β->wpAny P .any ops.toArray (Lift c nt Q) fuel listed a w:=by
 obtain⟨aw,aK⟩:=zC4 ops q ops tr 0 e0 σ0 ht;have fin:∀(listed:Array Bool)(a:Act)(w:World)(L:Nat->Nat)(β:List Value),Sim c nt (fE (λi=>listed.getD i false) 0 ops tr e0) (fS (λi=>listed.getD i false) q 0 ops tr σ0) a w L β->(∀i,i<ops.length->listed.getD i false=true)->Lift c nt Q .normal a w:=by
  intro listed a w L β hs ab;have e1:fE (λi=>listed.getD i false) 0 ops tr e0=fE (λ_=>true) 0 ops tr e0:=by funext t;exact zf2 _ _ t ops tr 0 e0 e0 rfl λk o hk _=>by rw[Ab];exact ab k (A1.1 hk).1
  have e2:fS (λi=>listed.getD i false) q 0 ops tr σ0=fS (λ_=>true) q 0 ops tr σ0:=zi7 _ _ q ops tr 0 σ0 λk o hk _=>by rw[Ab];exact ab k (A1.1 hk).1
  rw[e1,e2]at hs;exact⟨_,_,L,β,hs,hQ⟩
 have ax:∀(listed:Array Bool),listed.size=ops.length->Region.ready .any ops.toArray listed=[]->∀i,i<ops.length->listed.getD i false=true:=by intro listed ai hr i;induction i using Nat.strongRecOn with|ind i ih=>intro hi;cases an:listed.getD i false with |true=>rfl|false=>
    exfalso;have hm:i∈Region.ready .any ops.toArray listed:=by
     refine mem_ready.2 ⟨?_,ops[i],by simp[hi],λe he hb=>?_⟩;.have af:i<listed.size:=om;simpa[Array.getD,af]using an
     .unfold zd2 at av;simp only[Af,Cj]at av;have:=av i hi;rw[A0 hi]at this;simp only[D5]at this;have:=this e he;simp only[hb,Bool.not_true,C8,decide_eq_true_eq]at this;exact ih e.on this om
    rw[hr]at hm;cases hm
 intro fuel;induction fuel with
 |zero=>
  intro listed a w L β ai aB ao hs;have ab:∀i,i<ops.length->listed.getD i false=true:=by intro i hi;have af:i<listed.size:=om;cases an:listed[i]with|true=>simp[Array.getD,af,an]|false=>
    exfalso;have:false∈listed.toList:=by rw[<-an];simp
    have:=List.count_pos_iff.2 this;omega
  refine⟨?_,fin listed a w L β hs ab⟩;cases hr:Region.ready .any ops.toArray listed with |nil=>rfl|cons i l=>
   exfalso;have hm:i∈Region.ready .any ops.toArray listed:=by rw[hr];simp
   obtain⟨h1,o,ho,_⟩:=mem_ready.1 hm;have hi:i<ops.length:=(A1.1 (by simpa using ho)).1;have:=ab i hi;have af:i<listed.size:=om;simp[Array.getD,af]at this h1;rw[this]at h1;cases h1
 |succ fuel ih=>
  intro listed a w L β ai aB ao hs;refine⟨λhr=>fin listed a w L β hs (ax listed ai hr),λi hi=>?_⟩;obtain⟨h1,o,ho,ay⟩:=mem_ready.1 hi;have aa:ops[i]?=some o:=by simpa using ho
  have af:i<listed.size:=by rw[ai];exact(A1.1 aa).1
  have aq:listed.getD i false=false:=by simp[Array.getD,af]at h1⊢;exact h1
  have ah:∀k,k≠i->(listed.setIfInBounds i true).getD k false=listed.getD k false:=λk hk=>getD_set_ne false (λq=>hk q.symm);have az:(listed.setIfInBounds i true).getD i false=true:=by simp[Array.getD,af]
  have au:∀(j:Nat) o,ops[j]?=some o->(listed.setIfInBounds i true).getD j false=true->∀e∈o.after.toList,Region.binds .any e=true->(listed.setIfInBounds i true).getD e.on false=true:=by
   intro j o' hj aC e he hb;by_cases aD:j=i;.subst aD;rw[aa]at hj;cases hj;exact getD_set_true (ay e (by simpa using he) hb)
   .rw[ah j aD]at aC;exact getD_set_true (ao j o' hj aC e he hb)
  have ahead:∀{k:Nat},k≠i->k∈(befs ops []).getD i []->listed.getD k false=true:=λ{k}hk hb=>by have:=zi2 (D:=λj=>(listed.setIfInBounds i true).getD j false) au hb az;rwa[ah k hk]at this
  have zb9:∀{k:Nat},i∈(befs ops []).getD k []->listed.getD k false=false:=λ{k}hb=>by cases hk:listed.getD k false with|false=>rfl|true=>have:=zi2 (D:=λj=>listed.getD j false) ao hb hk;rw[aq]at this;cases this
  obtain⟨v,σ',aE,aj⟩:=aK i o aa;rw[Ab]at aj;have aF:∀t∈zw3 ops o,fE (λi=>listed.getD i false) 0 ops tr e0 t=fE (λj=>decide (j<i)) 0 ops tr e0 t:=by
   intro t aw;refine zf2 _ _ t ops tr 0 e0 e0 rfl λk o' hk ae=>?_;rw[Ab];rcases Bi k i with ad|ad|ad
   .rw[decide_eq_true ad];rcases zd6 hd ad hk aa with hc|hb;.exact absurd aw ((yS hc).2.1 t ae).1
    .exact ahead om hb
   .subst ad;rw[aq];simp
   .rw[decide_eq_false om];rcases zd6 hd ad aa hk with hc|hb;.exact absurd aw ((yS hc).2.2 t ae)
    .exact zb9 hb
  have ar:2<=zT q i o->fS (λi=>listed.getD i false) q 0 ops tr σ0=fS (λj=>decide (j<i)) q 0 ops tr σ0:=by
   intro ag;refine zi7 _ _ q ops tr 0 σ0 λk o' hk ae=>?_;rw[Ab]at ae⊢;rcases Bi k i with ad|ad|ad
   .rw[decide_eq_true ad];rcases zd6 hd ad hk aa with hc|hb;.have:=(yS hc).1;rw[zn4 ae (wI _ _ _) ag (wI _ _ _)]at this;cases this
    .exact ahead om hb
   .subst ad;rw[aq];simp
   .rw[decide_eq_false om];rcases zd6 hd ad aa hk with hc|hb;.have:=(yS hc).1;rw[zE2,zn4 ae (wI _ _ _) ag (wI _ _ _)]at this;cases this
    .exact zb9 hb
  have aG:zT q i o=1->n0.of (fS (λi=>listed.getD i false) q 0 ops tr σ0)=n0.of (fS (λj=>decide (j<i)) q 0 ops tr σ0):=by
   intro aH;have pre:∀N,N<=ops.length->∃m,m<=N/\∀k o',k<N->ops[k]?=some o'->3<=zT q k o'->listed.getD k false=decide (k<m):=by intro N;induction N with|zero=>exactλ_=>⟨0,A3 _,λk o' h=>om⟩|succ N aL=>
     intro hN;obtain⟨m,hm,ab⟩:=aL om;have aI:=A0 (show N<ops.length by omega);by_cases hw:3<=zT q N (ops[N]'om)/\listed.getD N false=true
     .refine⟨N+1,A3 _,λk o' hk ak h3=>?_⟩;rw[decide_eq_true hk];by_cases a1:k=N;.subst a1;exact hw.2
      .rcases zd6 hd (show k<N by omega) ak aI with hc|hb;.have:=(yS hc).1;rw[zn4 h3 (wI _ _ _) om (wI _ _ _)]at this;cases this
       .exact zi2 (D:=λj=>listed.getD j false) ao hb hw.2
     .refine⟨m,om,λk o' hk ak h3=>?_⟩;by_cases a1:k=N;.subst a1;rw[aI]at ak;cases ak;rw[decide_eq_false om];cases hl:listed.getD k false with |false=>rfl|true=>exact absurd ⟨h3,hl⟩ hw
      .exact ab k o' om ak h3
   obtain⟨m,hm,ab⟩:=pre ops.length (A3 _);have e1:fS (λi=>listed.getD i false) q 0 ops tr σ0=fS (λx=>decide (x<m)) q 0 ops tr σ0:=zi7 _ _ q ops tr 0 σ0 λk o' hk h3=>by rw[Ab]at h3⊢;exact ab k o' (A1.1 hk).1 hk h3
   rw[e1];have aQ:i<ops.length:=(A1.1 aa).1
   rcases Nat.le_total m i with aP|aP;.have:=(yY4 ht hn (i-m) m om (λk o' h5 h6 hk h4=>by
     have h7:=ab k o' (A1.1 hk).1 hk om;rw[decide_eq_false om]at h7;rcases zd6 hd (show k<i by omega) hk aa with hc|hb;.have:=(yS hc).1;rw[h4,aH,zE3 dc]at this;cases this
     .rw[ahead om hb]at h7;cases h7)).2;rw[show m+(i-m)=i by omega]at this;exact this.symm
   .have:=(yY4 ht hn (m-i) i om (λk o' h5 h6 hk h4=>by
     have h7:=ab k o' (A1.1 hk).1 hk om;rw[decide_eq_true om]at h7;have ad:k≠i:=λqq=>by subst qq;rw[hk]at aa;cases aa;omega
     rcases zd6 hd (show i<k by omega) aa hk with hc|hb;.have:=(yS hc).1;rw[zE2,h4,aH,zE3 dc]at this;cases this
     .rw[zb9 hb]at h7;cases h7)).2;rw[show i+(m-i)=m by omega]at this;exact this
  have a6:=zT3 (ops:=ops) (Q:=Lift c nt Q) (next:=wpAny P .any ops.toArray (Lift c nt Q) fuel (listed.setIfInBounds i true)) o hs (aj.step aF ar aG) (by
   rintro e' s' a' w' L' β' aJ ⟨rfl,rfl⟩
   refine ih _ a' w' L' β' (by simpa using ai) ?_ au ?_;.have:=yp8 (l:=listed) (i:=i) (by rw[Au af];have:=aq;simp[Array.getD,af]at this;rw[this]);omega
   .have e1:updO (fE (λi=>listed.getD i false) 0 ops tr e0) o.dst v=fE (λk=>(listed.setIfInBounds i true).getD k false) 0 ops tr e0:=by
     funext t;by_cases al:o.dst=some t
     .rw[zk0 _ _ _ _ al];refine(zD9 _ t ops tr 0 i e0 o v σ' aa aE al (by rw[Ab];exact az) λk' o' a7 a8 aA=>?_).symm;rw[Ab,ah k' om];rcases zd6 hd a7 aa a8 with hc|hb;.exact absurd aA ((yS hc).2.1 t al).2
      .exact zb9 hb
     .rw[zg5 _ _ _ _ al];refine zf2 _ _ t ops tr 0 e0 e0 rfl λk o' hk ae=>?_;rw[Ab];refine(ah k λq=>?_).symm;subst q;rw[aa]at hk;cases hk;exact al ae
    have e2:(if 3<=zT q i o then σ' else fS (λi=>listed.getD i false) q 0 ops tr σ0)=fS (λk=>(listed.setIfInBounds i true).getD k false) q 0 ops tr σ0:=by
     split
     .rename_i ag;refine(zK8 _ q ops tr 0 i σ0 o v σ' aa aE (by rw[Ab];exact ag) (by rw[Ab];exact az) λk' o' a7 a8 aA=>?_).symm;rw[Ab]at aA⊢;rw[ah k' om];rcases zd6 hd a7 aa a8 with hc|hb;.have:=(yS hc).1;rw[zn4 ag (wI _ _ _) om (wI _ _ _)]at this;cases this
      .exact zb9 hb
     .rename_i ag;refine zi7 _ _ q ops tr 0 σ0 λk o' hk ae=>?_;rw[Ab]at ae⊢;refine(ah k λq=>?_).symm;subst q;rw[aa]at hk;cases hk;exact ag ae
    rw[e1,e2]at aJ;exact aJ);unfold wpOp;rw[ho];exact a6
theorem VW.draw{id:Nat}{Q:Exit->Env->St->Prop}{e:Env}{σ:St}(hm:P.follows .mixedOrders=true)(hn:n0.n<=σ.length)(hd:zz8 ops q=true)(aa:zd2 ops=true)(ht:zv3 P c nt n0 ops q 0 ops e σ tr)(hQ:Q .normal (fE (λ_=>true) 0 ops tr e) (fS (λ_=>true) q 0 ops tr σ)):VW P c nt (.region id ops.toArray true) Q e σ:=by
 intro a w L β hs;refine wp_region_any hm ?_;have hg:∀j,(Array.replicate ops.toArray.size false).getD j false=false:=λj=>by simp[Array.getD]
 have e1:fE (λi=>(Array.replicate ops.toArray.size false).getD i false) 0 ops tr e=e:=by funext t;exact yb3 _ t ops tr 0 e λk o _ _=>hg _
 have e2:fS (λi=>(Array.replicate ops.toArray.size false).getD i false) q 0 ops tr σ=σ:=zy1 _ q ops tr 0 σ λk o _ _=>hg _;refine yv8 hn hd aa ht hQ _ _ a w.drew L β sm sm (λj o _ hj=>by rw[hg]at hj;cases hj) ?_;rw[e1,e2];obtain⟨ab,hle⟩:=hs.mem.drew;exact⟨ab,hs.size,hs.defs,λt=>(hs.env t).mono hle (Ext.refl _ _)⟩
end
end Go.Vx
