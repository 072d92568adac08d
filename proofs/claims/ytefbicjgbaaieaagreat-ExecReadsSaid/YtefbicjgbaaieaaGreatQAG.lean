/-
  Small helps for walks: numbers that do not wrap, rows at an index, arguments and results piece by piece.
  No condition: a library text; nothing of the program is named.
-/
import Derived.Test.YtefbicjgbaaieaaGreatQAF
import Derived.Carry
import Derived.ProofKit
import Derived.OpenShut
import Derived.IntWalk
set_option maxHeartbeats 8000000
namespace Go.Vx
open Go
def isSt:R->Bool |.st ..|.needst ..=>true|_=>false
def zY7:R->Bool |.all _|.any _=>true|_=>false
def stOk(n0:Kp)(k:Nat)(σ:St):R->Prop |.st _ σ'|.needst _ _ σ'=>σ.length<=σ'.length/\(k=3->KeepN n0 σ σ')|_=>True
def vtop(P:Program)(c:Ctx)(nt:Nat)(n0:Kp)(k:Nat)(d:Option Tmp)(op:Op)(K:KT)(e:Env)(σ:St):Prop:=match op with |.call ⟨.value f,args,_⟩=>∃v σ',(if k=0then∀s,VC P c (zF e f) (args.toList.map (zF e)) s (λr s'=>r=v/\s'=s)else if k=1then∀s,n0.of s=n0.of σ->VC P c (zF e f) (args.toList.map (zF e)) s (λr s'=>r=v/\s'=s)else VC P c (zF e f) (args.toList.map (zF e)) σ (λr s=>r=v/\s=σ'))/\(k<3->σ'=σ)/\(k=3->KeepN n0 σ σ')/\σ.length<=σ'.length/\vput nt d v K e σ'|op=>(k<3->hok P d e op)/\zY7 (xT P d e σ op)=false/\(k=0->ze6 op=0)/\(k=1->(∃t x,op=.load t x/\imm n0 (zF e x)=true)∨(∀t x,op≠.load t x)/\∀s,n0.of s=n0.of σ->evOp P e s op=evOp P e σ op)/\(isSt (xT P d e σ op)=true->3<=k)/\stOk n0 k σ (xT P d e σ op)/\vfin nt d (xT P d e σ op) K e σ
def vtr(P:Program)(c:Ctx)(nt:Nat)(n0:Kp)(ops:List Oper)(q:List (Nat×Nat)):Nat->List Oper->KT->Env->St->Prop |_,[],K,e,σ=>K e σ|i,o::os,K,e,σ=>vgd o.guard ops e (vtop P c nt n0 (zT q i o) o.dst o.op (vtr P c nt n0 ops q (i+1) os K) e σ) (vput nt o.dst (.tup []) (vtr P c nt n0 ops q (i+1) os K) e σ)
section
variable{P:Program}{c:Ctx}{nt:Nat}{n0:Kp}
variable{x:Operand}{t:TypeId}{op:Op}{ops:List Oper}{i:Nat}{y:Operand}{f:FuncId}{caps:List V}{args':List V}{KV:V->St->Prop}{q:List (Nat×Nat)}{n:Nat}{ts:Array TypeId}{s1:St}
theorem yk6{d:Option Tmp}{v:V}{K:KT}{e:Env}{σ:St}(h:vput nt d v K e σ):(∀t,d=some t->t<nt)/\K (updO e d v) σ:=by cases d with |none=>exact⟨λt q=>(by cases q),h⟩|some t=>exact⟨λt' q=>by cases q;exact h.1,h.2⟩
theorem zq1{ops:List Oper}{q:List (Nat×Nat)}:∀(os:List Oper)(i:Nat)(K:KT)(e:Env)(σ:St),vtr P c nt n0 ops q i os K e σ->∃tr,zv3 P c nt n0 ops q i os e σ tr/\K (fE (λ_=>true) i os tr e) (fS (λ_=>true) q i os tr σ)
 |[],i,K,e,σ,h=>⟨[],tV,h⟩|o::os,i,K,e,σ,h=>by
  have go:∀(v:V)(σ':St),Fact P c nt n0 ops q i o e σ v σ'->vtr P c nt n0 ops q (i+1) os K (updO e o.dst v) σ'->∃tr,zv3 P c nt n0 ops q i (o::os) e σ tr/\K (fE (λ_=>true) i (o::os) tr e) (fS (λ_=>true) q i (o::os) tr σ):=by
   intro v σ' hf hk;obtain⟨tr,ht,hK⟩:=zq1 os (i+1) K _ _ hk;refine⟨(v,σ')::tr,⟨hf,ht⟩,?_⟩;rw[fE,fS,if_pos rfl];have:(if((λ_=>true) i&&decide (3<=zT q i o))=true then σ' else σ)=σ':=by
    by_cases h2:3<=zT q i o;.rw[if_pos (by simp[h2])]
    .rw[if_neg (by simp[h2])];exact(hf.2.1 om).symm
   rw[this];exact hK
  have yes:(match o.guard with|none=>True|some (j,want)=>∃t b,gdst ops j=some t/\e t=.bool b/\b=want)->vtop P c nt n0 (zT q i o) o.dst o.op (vtr P c nt n0 ops q (i+1) os K) e σ->∃tr,zv3 P c nt n0 ops q i (o::os) e σ tr/\K (fE (λ_=>true) i (o::os) tr e) (fS (λ_=>true) q i (o::os) tr σ):=by
   intro hg hv;have ah:∃g:Bool,(match o.guard with|none=>g=true|some (j,want)=>∃t,gdst ops j=some t/\((∃b,e t=.bool b/\g=(b==want))∨(e t=.tup []/\g=false)))/\g=true:=by
    refine⟨true,?_,rfl⟩;split;.rfl
    .rename_i j want ai;rw[ai]at hg;obtain⟨t,b,h1,h2,h3⟩:=hg;exact⟨t,h1,.inl ⟨b,h2,by simp[h3]⟩⟩
   obtain⟨g,af,rfl⟩:=ah;unfold vtop at hv;split at hv;.rename_i f args ts ae;obtain⟨v,σ',aj,ak,h3,hlen,hp⟩:=hv;obtain⟨hd,hk⟩:=yk6 hp;refine go v σ' ⟨hd,ak,h3,hlen,true,af,?_⟩ hk;rw[if_pos rfl,ae];exact aj
   .rename_i al;obtain⟨an,ab,hz,ao,ag,aa,hv⟩:=hv;have done:∀v σ',(zT q i o<3->σ'=σ)->(zT q i o=3->KeepN n0 σ σ')->σ.length<=σ'.length->((xT P o.dst e σ o.op=.ok v/\σ'=σ)∨(∃p,xT P o.dst e σ o.op=.need p v/\p/\σ'=σ)∨(3<=zT q i o/\(xT P o.dst e σ o.op=.st v σ'∨∃p,xT P o.dst e σ o.op=.needst p v σ'/\p)))->vput nt o.dst v (vtr P c nt n0 ops q (i+1) os K) e σ'->∃tr,zv3 P c nt n0 ops q i (o::os) e σ tr/\K (fE (λ_=>true) i (o::os) tr e) (fS (λ_=>true) q i (o::os) tr σ):=by
     intro v σ' h2 h3 hlen hf hp;obtain⟨hd,hk⟩:=yk6 hp;refine go v σ' ⟨hd,h2,h3,hlen,true,af,?_⟩ hk;rw[if_pos rfl];split;.rename_i f args ts ae;exact absurd ae (al f args ts)
     .exact⟨an,hz,ao,hf⟩
    cases hr:xT P o.dst e σ o.op with |all f=>rw[hr]at ab;cases ab|any l=>rw[hr]at ab;cases ab|fail=>rw[hr]at hv;exact hv.elim|ok v=>rw[hr]at hv;exact done v σ (λ_=>rfl) (λ_=>KeepN.refl) (A3 _) (.inl ⟨hr,rfl⟩) hv|need p v=>rw[hr]at hv;exact done v σ (λ_=>rfl) (λ_=>KeepN.refl) (A3 _) (.inr (.inl ⟨p,hr,hv.1,rfl⟩)) hv.2|st v σ'=>rw[hr]at hv aa;have h3:=ag (by rw[hr];rfl);exact done v σ' (λh=>om) aa.2 aa.1 (.inr (.inr ⟨h3,.inl hr⟩)) hv|needst p v σ'=>rw[hr]at hv aa;have h3:=ag (by rw[hr];rfl);exact done v σ' (λh=>om) aa.2 aa.1 (.inr (.inr ⟨h3,.inr ⟨p,hr,hv.1⟩⟩)) hv.2
  have no:(∃j want t,o.guard=some (j,want)/\gdst ops j=some t/\((∃b,e t=.bool b/\b≠want)∨e t=.tup []))->vput nt o.dst (.tup []) (vtr P c nt n0 ops q (i+1) os K) e σ->∃tr,zv3 P c nt n0 ops q i (o::os) e σ tr/\K (fE (λ_=>true) i (o::os) tr e) (fS (λ_=>true) q i (o::os) tr σ):=by
   rintro⟨j,want,t,hg,h1,h2⟩hv;obtain⟨hd,hk⟩:=yk6 hv;refine go (.tup []) σ ⟨hd,λ_=>rfl,λ_=>KeepN.refl,A3 _,false,?_,?_⟩ hk
   .rw[hg];rcases h2 with⟨b,h2,h3⟩|h2;.exact⟨t,h1,.inl ⟨b,h2,by simp[h3]⟩⟩
    .exact⟨t,h1,.inr ⟨h2,rfl⟩⟩
   .rw[if_neg sm];exact⟨rfl,rfl⟩
  unfold vtr vgd at h;split at h;.rename_i hg;exact yes (by rw[hg];trivial) h
  .rename_i j want hg;split at h
   .rename_i t ht;unfold vgrd at h;split at h
    .rename_i b hb;by_cases ad:b=want;.exact yes (by rw[hg];exact⟨t,b,ht,hb,ad⟩) (h.1 ad)
     .exact no ⟨j,want,t,hg,ht,.inl ⟨b,hb,ad⟩⟩ (h.2 ad)
    .rename_i hb;exact no ⟨j,want,t,hg,ht,.inr hb⟩ h
    .exact h.elim
   .exact h.elim
def wtr(P:Program)(c:Ctx)(nt:Nat)(n0:Kp)(ops:List Oper)(q:List (Nat×Nat))(i:Nat)(l:List Oper)(K:KT)(_:Fx ops)(_:Fx l)(_:Fx K)(e:Env)(σ:St):Prop:=vtr P c nt n0 ops q i l K e σ
def wtop(P:Program)(c:Ctx)(nt:Nat)(n0:Kp)(k:Nat)(d:Option Tmp)(op:Op)(K:KT)(_:Fx op)(_:Fx K)(e:Env)(σ:St):Prop:=vtop P c nt n0 k d op K e σ
def wVD(P:Program)(c:Ctx)(n0:Kp)(k:Nat)(fv:V)(az:List V)(σ:St)(K:V->St->Prop)(_:Fx K):Prop:=∃v σ',(if k=0then∀s,VC P c fv az s (λr s'=>r=v/\s'=s)else if k=1then∀s,n0.of s=n0.of σ->VC P c fv az s (λr s'=>r=v/\s'=s)else VC P c fv az σ (λr s=>r=v/\s=σ'))/\(k<3->σ'=σ)/\(k=3->KeepN n0 σ σ')/\σ.length<=σ'.length/\K v σ'
theorem yU{id:Nat}{Q:QT}{e:Env}{σ:St}(q:List (Nat×Nat))(n0:Nat)(hn:σ.length=n0)(hm:P.follows .mixedOrders=true)(hd:(zz8 ops q&&zd2 ops)=true)(h:wtr P c nt (Kp.pre n0) ops q 0 ops (Q .normal) fx fx fx e σ):wVW P c nt (.region id ops.toArray true) Q fx fx e σ:=by simp only[A6]at hd;obtain⟨tr,ht,hK⟩:=zq1 ops 0 (Q .normal) e σ h;exact VW.draw (n0:=Kp.pre n0) hm (Cm hn.symm) hd.1 hd.2 ht hK
def xw5(q:List (Nat×Nat))(i:Nat)(op:Op):Nat:=match q.find? (·.1==i)with|some p=>min p.2 4|none=>ze6 op
variable{e:Env}{σ:St}{K:KT}{Q:QT}{d:Option Tmp}{k:Nat}
@[go_sem]theorem wtr_nil:wtr P c nt n0 ops q i [] K fx fx fx e σ=K e σ:=id rfl
@[go_sem]theorem wtr_cons{rest:List Oper}{ty:TypeId}{pos:String}{aft:Array Edge}:wtr P c nt n0 ops q i (⟨d,op,ty,pos,aft,none⟩::rest) K fx fx fx e σ=wtop P c nt n0 (xw5 q i op) d op (wtr P c nt n0 ops q (i+1) rest K fx fx fx) fx fx e σ:=id rfl
@[go_sem]theorem wtr_guard{rest:List Oper}{ty:TypeId}{pos:String}{aft:Array Edge}{j:Nat}{want:Bool}:wtr P c nt n0 ops q i (⟨d,op,ty,pos,aft,some (j,want)⟩::rest) K fx fx fx e σ=wgdo (wdst ops fx j) want e (wtop P c nt n0 (xw5 q i op) d op (wtr P c nt n0 ops q (i+1) rest K fx fx fx) fx fx e σ) (wput nt d (.tup []) (wtr P c nt n0 ops q (i+1) rest K fx fx fx) fx e σ) fx fx:=id rfl
attribute [go_sem] xw5 imm
theorem zu9(op:Op)(h:ze6 op<3):isSt (evOp P e σ op)=false:=by cases op with
 |call cl=>obtain⟨aa,⟨args⟩,ts⟩:=cl;cases aa with
  |builtin b=>
   cases b;case len=>simp only[evOp];split<;>first|rfl|(rename_i heq;simp at heq;done)|(unfold zY3;(repeat' split)<;>rfl)
   case min=>simp only[evOp];unfold zA9;(repeat' split)<;>rfl
   case max=>simp only[evOp];unfold zA9;(repeat' split)<;>rfl
   all_goals first|(simp[ze6]at h;done)|rfl
  |_=>rfl
 |slice t x lo hi mx=>cases lo<;>cases hi<;>cases mx<;>simp only[evOp]<;>first|rfl|(unfold zn9;(repeat' split)<;>rfl)|(unfold zr2;(repeat' split)<;>rfl)
 |move x=>rfl|assign x=>rfl|pick x y z=>simp only[evOp];unfold zH6;(repeat' split)<;>rfl|build t ps=>simp only[evOp];unfold zx7;(repeat' split)<;>rfl|buildSlice t n ps=>simp only[evOp];unfold zb5;(repeat' split)<;>rfl|nilCheck x=>simp only[evOp];unfold zY4;(repeat' split)<;>rfl|binOp o t x y t'=>simp only[evOp];unfold zu3 yK8 zr1 zt5 zO3 zP7;(repeat' split)<;>rfl|unOp o t x=>simp only[evOp];unfold evUn;(repeat' split)<;>rfl|convert t t' x=>simp only[evOp];unfold zD6;(repeat' split)<;>rfl|fieldAddr t x f=>simp only[evOp];unfold zf6;(repeat' split)<;>rfl|field t x f=>simp only[evOp];unfold zx9;(repeat' split)<;>rfl|indexAddr t x i=>simp only[evOp];unfold zj6;(repeat' split)<;>rfl|index t x i=>simp only[evOp];unfold zQ6;(repeat' split)<;>rfl|extract x i=>simp only[evOp];unfold zn0;(repeat' split)<;>rfl|makeFunc fn l m=>simp only[evOp];unfold zH5;(repeat' split)<;>rfl|load t x=>simp only[evOp];unfold zi4;(repeat' split)<;>first|rfl|(unfold zm1;(repeat' split)<;>rfl)
 |_=>first|(simp[ze6]at h;done)|rfl
theorem zg2(op:Op)(h:∀o t x y t',op≠.binOp o t x y t'):zY7 (evOp P e σ op)=false:=by cases op with
 |call cl=>obtain⟨aa,⟨args⟩,ts⟩:=cl;cases aa with
  |builtin b=>
   cases b;case len=>simp only[evOp];split<;>first|rfl|(rename_i heq;simp at heq;done)|(unfold zY3;(repeat' split)<;>rfl)
   case append=>simp only[evOp];split<;>first|rfl|(rename_i heq;simp at heq;done)|(unfold zi3;(repeat' split)<;>rfl)
   case clear=>simp only[evOp];split<;>first|rfl|(rename_i heq;simp at heq;done)|(unfold zu1;(repeat' split)<;>rfl)
   case delete=>simp only[evOp];split<;>first|rfl|(rename_i heq;simp at heq;done)|(unfold zr0;(repeat' split)<;>rfl)
   case min=>simp only[evOp];unfold zA9;(repeat' split)<;>rfl
   case max=>simp only[evOp];unfold zA9;(repeat' split)<;>rfl
   all_goals rfl|_=>rfl
 |slice t x lo hi mx=>cases lo<;>cases hi<;>cases mx<;>simp only[evOp]<;>first|rfl|(unfold zn9;(repeat' split)<;>rfl)|(unfold zr2;(repeat' split)<;>rfl)
 |pick x y z=>simp only[evOp];unfold zH6;(repeat' split)<;>rfl|alloc t=>simp only[evOp];unfold zm0;(repeat' split)<;>rfl|box t x=>simp only[evOp];unfold zQ5;(repeat' split)<;>rfl|store t x y=>simp only[evOp];unfold zu4;(repeat' split)<;>rfl|makeSlice t l m=>simp only[evOp];unfold zD8;(repeat' split)<;>rfl|build t ps=>simp only[evOp];unfold zx7;(repeat' split)<;>rfl|buildSlice t n ps=>simp only[evOp];unfold zb5;(repeat' split)<;>rfl|nilCheck x=>simp only[evOp];unfold zY4;(repeat' split)<;>rfl|binOp o t x y t'=>exact absurd rfl (h o t x y t')|unOp o t x=>simp only[evOp];unfold evUn;(repeat' split)<;>rfl|convert t t' x=>simp only[evOp];unfold zD6;(repeat' split)<;>rfl|fieldAddr t x f=>simp only[evOp];unfold zf6;(repeat' split)<;>rfl|field t x f=>simp only[evOp];unfold zx9;(repeat' split)<;>rfl|indexAddr t x i=>simp only[evOp];unfold zj6;(repeat' split)<;>rfl|index t x i=>simp only[evOp];unfold zQ6;(repeat' split)<;>rfl|extract x i=>simp only[evOp];unfold zn0;(repeat' split)<;>rfl|makeFunc fn l m=>simp only[evOp];unfold zH5;(repeat' split)<;>rfl|load t x=>simp only[evOp];unfold zi4;(repeat' split)<;>first|rfl|(unfold zm1;(repeat' split)<;>rfl)
 |makeMap t r=>simp only[evOp];unfold zn1;(repeat' split)<;>rfl|lookup t x k ok=>simp only[evOp];unfold xY;(repeat' split)<;>rfl|mapUpdate t x k v=>simp only[evOp];unfold xS;(repeat' split)<;>rfl|insert t x k v=>simp only[evOp];unfold xS;(repeat' split)<;>rfl|range t x=>simp only[evOp];unfold zy0;(repeat' split)<;>rfl|entry x=>simp only[evOp];unfold zj5;(repeat' split)<;>rfl|makeInterface t x=>simp only[evOp];unfold zY2;(repeat' split)<;>rfl|mapEntry t x k=>simp only[evOp];unfold wC;(repeat' split)<;>rfl|entryStore t x k v=>simp only[evOp];unfold xO;(repeat' split)<;>rfl|next x b=>cases b<;>simp only[evOp]<;>first|rfl|(unfold zi5;(repeat' split)<;>first|rfl|contradiction)
 |_=>rfl
theorem zs1{r:R}(h:isSt r=false):stOk n0 k σ r:=by cases r<;>first|trivial|cases h
theorem zj4(hA:∀o t x y t',op≠.binOp o t x y t')(hL:∀e σ,za5 P e σ op=evOp P e σ op)(h:ze6 op=0)(hc:∀f az ts,op≠.call ⟨.value f,az,ts⟩):wtop P c nt n0 0 d op K fx fx e σ=wop P c nt d op K fx fx e σ:=by
 show vtop P c nt n0 0 d op K e σ=vop P c nt d op K e σ;have hh:hok P d e op:=.inr hL;unfold vtop vop;split;.exact absurd rfl (hc _ _ _)
 .have:=zu9 (P:=P) (e:=e) (σ:=σ) op om;split;.exact absurd rfl (hc _ _ _)
  .have h2:stOk n0 0 σ (evOp P e σ op):=zs1 this;rw[zp6 hh];simp[this,h,h2,hh,zg2 op hA]
theorem zW9(hA:∀o t x y t',op≠.binOp o t x y t')(h:ze6 op=0)(hc:∀f az ts,op≠.call ⟨.value f,az,ts⟩):wtop P c nt n0 0 d op K fx fx e σ=zK1 (hok P d e op) (wop P c nt d op K fx fx e σ) fx:=by
 show vtop P c nt n0 0 d op K e σ=(hok P d e op/\vop P c nt d op K e σ);by_cases hh:hok P d e op
 .unfold vtop vop;split;.exact absurd rfl (hc _ _ _)
  .have:=zu9 (P:=P) (e:=e) (σ:=σ) op om;split;.exact absurd rfl (hc _ _ _)
   .have h3:stOk n0 0 σ (evOp P e σ op):=zs1 this;rw[zp6 hh];simp[this,h,h3,hh,zg2 op hA]
 .unfold vtop;split;.exact absurd rfl (hc _ _ _)
  .simp[hh]
@[go_sem]theorem hok_t(h:ze4 e d=false):hok P d e op=True:=by simp[hok,h]
theorem zR1:hok P d e (.load t x):=.inr λ_ _=>rfl
theorem yX9:wtop P c nt n0 1 d (.load t x) K fx fx e σ=zK1 (imm n0 (zF e x)=true) (wop P c nt d (.load t x) K fx fx e σ) fx:=by
 show vtop P c nt n0 1 d (.load t x) K e σ=(_/\vop P c nt d (.load t x) K e σ);have:=zu9 (P:=P) (e:=e) (σ:=σ) (.load t x) (show 1<3by omega);have h2:stOk n0 1 σ (evOp P e σ (.load t x)):=zs1 this;have hA:=zg2 (P:=P) (e:=e) (σ:=σ) (.load t x) (λ_ _ _ _ _ h=>by cases h);simp only[vtop,vop,this,h2,zp6 zR1,hA];refine propext ⟨λh=>?_,λh=>?_⟩
 .obtain⟨_,_,_,h1,_,_,h3⟩:=h;rcases h1 trivial with⟨t',x',aa,ab⟩|⟨ad,_⟩;.cases aa;exact⟨ab,h3⟩
  .exact absurd rfl (ad t x)
 .exact⟨λ_=>zR1,tV,λq=>by simp at q,λ_=>.inl ⟨t,x,rfl,h.1⟩,λq=>by simp at q,tV,h.2⟩
theorem yY0:wtop P c nt n0 2 d (.load t x) K fx fx e σ=wop P c nt d (.load t x) K fx fx e σ:=by show vtop P c nt n0 2 d (.load t x) K e σ=vop P c nt d (.load t x) K e σ;have:=zu9 (P:=P) (e:=e) (σ:=σ) (.load t x) (show 1<3by omega);have h2:stOk n0 2 σ (evOp P e σ (.load t x)):=zs1 this;have hA:=zg2 (P:=P) (e:=e) (σ:=σ) (.load t x) (λ_ _ _ _ _ h=>by cases h);simp[vtop,vop,this,h2,zp6 zR1,zR1,hA]
theorem zW5:stOk n0 4 σ (evOp P e σ op):=by
 by_cases h:ze6 op<3;.exact zs1 (zu9 op h)
 .cases op with
  |alloc t=>simp only[evOp];unfold zm0;(repeat' split)<;>first|trivial|exact⟨sm,λh=>om⟩
  |box t x=>simp only[evOp];unfold zQ5;(repeat' split)<;>first|trivial|exact⟨sm,λh=>om⟩
  |store t x y=>simp only[evOp];unfold zu4;(repeat' split)<;>first|trivial|exact⟨sm,λh=>om⟩
  |makeSlice t l m=>simp only[evOp];unfold zD8;(repeat' split)<;>first|trivial|exact⟨sm,λh=>om⟩
  |makeMap t r=>simp only[evOp];unfold zn1;(repeat' split)<;>first|trivial|exact⟨sm,λh=>om⟩
  |lookup t x k ok=>simp only[evOp];unfold xY;(repeat' split)<;>trivial|mapUpdate t x k v=>simp only[evOp];unfold xS;(repeat' split)<;>first|trivial|exact⟨sm,λh=>om⟩
  |insert t x k v=>simp only[evOp];unfold xS;(repeat' split)<;>first|trivial|exact⟨sm,λh=>om⟩
  |range t x=>simp only[evOp];unfold zy0;(repeat' split)<;>first|trivial|exact⟨sm,λh=>om⟩
  |entry x=>simp only[evOp];unfold zj5;(repeat' split)<;>trivial|makeInterface t x=>simp only[evOp];unfold zY2;(repeat' split)<;>trivial|mapEntry t x k=>simp only[evOp];unfold wC;(repeat' split)<;>first|trivial|exact⟨sm,λh=>om⟩
  |entryStore t x s v=>simp only[evOp];unfold xO;(repeat' split)<;>first|trivial|exact⟨sm,λh=>om⟩
  |next x b=>cases b<;>simp only[evOp]<;>first|trivial|(unfold zi5;(repeat' split)<;>first|trivial|exact⟨sm,λh=>om⟩)
  |call cl=>obtain⟨aa,⟨args⟩,ts⟩:=cl;cases aa with
   |builtin b=>
    cases b;case append=>simp only[evOp];split<;>first|trivial|(rename_i heq;simp at heq;done)|(unfold zi3;(repeat' split)<;>first|trivial|exact⟨sm,λh=>om⟩)
    case clear=>simp only[evOp];split<;>first|trivial|(rename_i heq;simp at heq;done)|(unfold zu1;(repeat' split)<;>first|trivial|exact⟨sm,λh=>om⟩)
    case delete=>simp only[evOp];split<;>first|trivial|(rename_i heq;simp at heq;done)|(unfold zr0;(repeat' split)<;>first|trivial|exact⟨sm,λh=>om⟩)
    all_goals first|(simp[ze6]at h;done)|trivial
   |_=>trivial
  |slice t x lo hi mx=>simp[ze6]at h|_=>first|(simp[ze6]at h;done)|trivial
theorem zY5(op:Op)(hA:∀o t x y t',op≠.binOp o t x y t')(hN:∀x b,op≠.next x b):zY7 (za5 P e σ op)=false:=by have h:=zg2 (P:=P) (e:=e) (σ:=σ) op hA;cases op with
 |buildSlice t n ps=>simp only[za5];unfold za3;(repeat' split)<;>rfl|makeSlice t l m=>simp only[za5];unfold zu2;(repeat' split)<;>rfl|convert t t' x=>simp only[za5];unfold zx8;(repeat' split)<;>rfl|slice t x lo hi mx=>cases lo with |none=>exact h|some lo=>cases hi with |some _=>exact h|none=>cases mx with |some _=>exact h|none=>simp only[za5];unfold zr3;(repeat' split)<;>rfl
 |next x b=>exact absurd rfl (hN x b)|call cl=>obtain⟨aa,⟨args⟩,ts⟩:=cl;cases aa with
  |builtin b=>
   cases b;case append=>simp only[za5];split<;>first|exact h|(rename_i heq;simp at heq;done)|(unfold zf1;(repeat' split)<;>rfl)
   all_goals exact h|_=>exact h
 |_=>exact h
theorem yW4:stOk n0 4 σ (za5 P e σ op):=by have h:stOk n0 4 σ (evOp P e σ op):=zW5;cases op with
 |buildSlice t n ps=>simp only[za5];unfold za3;(repeat' split)<;>first|trivial|exact⟨sm,λh=>om⟩
 |makeSlice t l m=>simp only[za5];unfold zu2;(repeat' split)<;>first|trivial|exact⟨sm,λh=>om⟩
 |convert t t' x=>simp only[za5];unfold zx8;(repeat' split)<;>first|trivial|exact⟨sm,λh=>om⟩
 |slice t x lo hi mx=>cases lo with |none=>exact h|some lo=>cases hi with |some _=>exact h|none=>cases mx with |some _=>exact h|none=>simp only[za5];unfold zr3;(repeat' split)<;>first|trivial|exact⟨sm,λh=>om⟩
 |next x b=>cases b<;>simp only[za5]<;>first|exact h|(unfold zi5;(repeat' split)<;>first|trivial|exact⟨sm,λh=>om⟩)
 |call cl=>obtain⟨aa,⟨args⟩,ts⟩:=cl;cases aa with
  |builtin b=>
   cases b;case append=>simp only[za5];split<;>first|exact h|(rename_i heq;simp at heq;done)|(unfold zf1;(repeat' split)<;>first|trivial|exact⟨sm,λh=>om⟩)
   all_goals exact h|_=>exact h
 |_=>exact h
theorem zX0(hA:∀o t x y t',op≠.binOp o t x y t')(hN:∀x b,op≠.next x b)(hc:∀f az ts,op≠.call ⟨.value f,az,ts⟩):wtop P c nt n0 4 d op K fx fx e σ=wop P c nt d op K fx fx e σ:=by
 show vtop P c nt n0 4 d op K e σ=vop P c nt d op K e σ;have h1:zY7 (xT P d e σ op)=false:=by
  unfold xT;split;.exact zY5 op hA hN
  .exact zg2 op hA
 have h2:stOk n0 4 σ (xT P d e σ op):=by
  unfold xT;split;.exact yW4
  .exact zW5
 unfold vtop vop;split;.exact absurd rfl (hc _ _ _)
 .split;.exact absurd rfl (hc _ _ _)
  .refine propext ⟨λq=>q.2.2.2.2.2.2,λq=>⟨λq=>om,h1,λq=>by simp at q,λq=>by simp at q,λ_=>om,h2,q⟩⟩
theorem zU0(hA:∀o t x y t',op≠.binOp o t x y t')(hN:∀x b,op≠.next x b)(_:∀e σ,za5 P e σ op=evOp P e σ op)(hc:∀f az ts,op≠.call ⟨.value f,az,ts⟩):wtop P c nt n0 4 d op K fx fx e σ=wop P c nt d op K fx fx e σ:=zX0 hA hN hc
theorem zz6(hA:∀o t x y t',op≠.binOp o t x y t')(hL:∀e σ,za5 P e σ op=evOp P e σ op)(h2:stOk n0 3 σ (evOp P e σ op))(hc:∀f az ts,op≠.call ⟨.value f,az,ts⟩):wtop P c nt n0 3 d op K fx fx e σ=wop P c nt d op K fx fx e σ:=by
 show vtop P c nt n0 3 d op K e σ=vop P c nt d op K e σ;have hh:hok P d e op:=.inr hL;unfold vtop vop;split;.exact absurd rfl (hc _ _ _)
 .split;.exact absurd rfl (hc _ _ _)
  .rw[zp6 hh];simp[h2,hh,zg2 op hA]
def Kp.out(k:Kp)(id:Nat):Bool:=(decide (id<k.x)&&k.ob.isNone)||decide (k.n<=id)
@[go_sem]theorem Kp.out_pre{id:Nat}:(Kp.mk 0 n [] none).out id=decide (n<=id):=by simp[Kp.out]
@[go_sem]theorem Kp.out_but{x id:Nat}:(Kp.mk (x+1) n [] none).out id=(decide (id<x+1)||decide (n<=id)):=by simp[Kp.out]
def zb9(n0:Kp):V->Bool|.ptr id _=>n0.out id|.lsp id _ _ _ _=>n0.out id|_=>false
attribute [go_sem] zb9
@[go_sem]theorem wtop_store3(h:zb9 n0 (zF e x)=true):wtop P c nt n0 3 d (.store t x y) K fx fx e σ=wop P c nt d (.store t x y) K fx fx e σ:=zz6 (λ_ _ _ _ _ h=>by cases h) (λ_ _=>rfl) (by
  simp only[evOp];unfold zu4;split;.rename_i id off hx;rw[hx]at h;have h:n0.out id=true:=h;simp only[Kp.out,Bv,A6,Option.isNone_iff_eq_none,decide_eq_true_eq]at h;(repeat' split)<;>first|trivial|exact⟨sm,λ_=>.inr (Kp.of_set h)⟩
  .rename_i id s n k j hx;rw[hx]at h;have h:n0.out id=true:=h;simp only[Kp.out,Bv,A6,Option.isNone_iff_eq_none,decide_eq_true_eq]at h;(repeat' split)<;>first|trivial|exact⟨sm,λ_=>.inr (Kp.of_set h)⟩
  .trivial) (λ_ _ _ h=>by cases h)
@[go_sem]theorem wtop_move:wtop P c nt n0 0 d (.move x) K fx fx e σ=wop P c nt d (.move x) K fx fx e σ:=zj4 (λ_ _ _ _ _ h=>by cases h) (λ_ _=>rfl) rfl (λ_ _ _ h=>by cases h)
@[go_sem]theorem wtop_assign:wtop P c nt n0 0 d (.assign x) K fx fx e σ=wop P c nt d (.assign x) K fx fx e σ:=zj4 (λ_ _ _ _ _ h=>by cases h) (λ_ _=>rfl) rfl (λ_ _ _ h=>by cases h)
@[go_sem]theorem wtop_pick{z:Operand}:wtop P c nt n0 0 d (.pick x y z) K fx fx e σ=wop P c nt d (.pick x y z) K fx fx e σ:=zj4 (λ_ _ _ _ _ h=>by cases h) (λ_ _=>rfl) rfl (λ_ _ _ h=>by cases h)
@[go_sem]theorem wtop_build{l:Array (Nat×Operand)}:wtop P c nt n0 0 d (.build t l) K fx fx e σ=wop P c nt d (.build t l) K fx fx e σ:=zj4 (λ_ _ _ _ _ h=>by cases h) (λ_ _=>rfl) rfl (λ_ _ _ h=>by cases h)
@[go_sem]theorem wtop_buildSlice{l:Array (Nat×Operand)}:wtop P c nt n0 0 d (.buildSlice t n l) K fx fx e σ=zK1 (hok P d e (.buildSlice t n l)) (wop P c nt d (.buildSlice t n l) K fx fx e σ) fx:=zW9 (λ_ _ _ _ _ h=>by cases h) rfl (λ_ _ _ h=>by cases h)
@[go_sem]theorem wtop_nil:wtop P c nt n0 0 d (.nilCheck x) K fx fx e σ=wop P c nt d (.nilCheck x) K fx fx e σ:=zj4 (λ_ _ _ _ _ h=>by cases h) (λ_ _=>rfl) rfl (λ_ _ _ h=>by cases h)
theorem xo5{op:BinOp}{t':TypeId}:wtop P c nt n0 0 d (.binOp op t x y t') K fx fx e σ=zK1 (zY7 (wh (zh8 y) (zu3 op (eqK P t) (zF e x)) (wh (zg7 y) (zr1 op (zi9 P t) (zF e x)) (zt5 op (eqK P t) (eqS P t) (zF e x) (zF e y))))=false) (wop P c nt d (.binOp op t x y t') K fx fx e σ) fx:=by show vtop P c nt n0 0 d (.binOp op t x y t') K e σ=(zY7 (evOp P e σ (.binOp op t x y t'))=false/\vop P c nt d (.binOp op t x y t') K e σ);have hh:hok P d e (.binOp op t x y t'):=.inr λ_ _=>rfl;have h1:=zu9 (P:=P) (e:=e) (σ:=σ) (.binOp op t x y t') (show 0<3by omega);have h2:stOk n0 0 σ (evOp P e σ (.binOp op t x y t')):=zs1 h1;simp[vtop,vop,zp6 hh,hh,h1,h2,ze6]
attribute [go_sem] xo5 zY7
@[go_sem]theorem wtop_un{op:UnOp}:wtop P c nt n0 0 d (.unOp op t x) K fx fx e σ=wop P c nt d (.unOp op t x) K fx fx e σ:=zj4 (λ_ _ _ _ _ h=>by cases h) (λ_ _=>rfl) rfl (λ_ _ _ h=>by cases h)
@[go_sem]theorem wtop_conv{t':TypeId}:wtop P c nt n0 0 d (.convert t t' x) K fx fx e σ=zK1 (hok P d e (.convert t t' x)) (wop P c nt d (.convert t t' x) K fx fx e σ) fx:=zW9 (λ_ _ _ _ _ h=>by cases h) rfl (λ_ _ _ h=>by cases h)
@[go_sem]theorem wtop_slice{lo hi mx:Option Operand}:wtop P c nt n0 0 d (.slice t x lo hi mx) K fx fx e σ=zK1 (hok P d e (.slice t x lo hi mx)) (wop P c nt d (.slice t x lo hi mx) K fx fx e σ) fx:=zW9 (λ_ _ _ _ _ h=>by cases h) rfl (λ_ _ _ h=>by cases h)
@[go_sem]theorem wtop_fieldAddr{f:Nat}:wtop P c nt n0 0 d (.fieldAddr t x f) K fx fx e σ=wop P c nt d (.fieldAddr t x f) K fx fx e σ:=zj4 (λ_ _ _ _ _ h=>by cases h) (λ_ _=>rfl) rfl (λ_ _ _ h=>by cases h)
@[go_sem]theorem wtop_idxAddr{i:Operand}:wtop P c nt n0 0 d (.indexAddr t x i) K fx fx e σ=wop P c nt d (.indexAddr t x i) K fx fx e σ:=zj4 (λ_ _ _ _ _ h=>by cases h) (λ_ _=>rfl) rfl (λ_ _ _ h=>by cases h)
@[go_sem]theorem wtop_idx{i:Operand}:wtop P c nt n0 0 d (.index t x i) K fx fx e σ=wop P c nt d (.index t x i) K fx fx e σ:=zj4 (λ_ _ _ _ _ h=>by cases h) (λ_ _=>rfl) rfl (λ_ _ _ h=>by cases h)
@[go_sem]theorem wtop_extract:wtop P c nt n0 0 d (.extract x i) K fx fx e σ=wop P c nt d (.extract x i) K fx fx e σ:=zj4 (λ_ _ _ _ _ h=>by cases h) (λ_ _=>rfl) rfl (λ_ _ _ h=>by cases h)
@[go_sem]theorem wtop_len{l:Array Operand}:wtop P c nt n0 0 d (.call ⟨.builtin .len,l,ts⟩) K fx fx e σ=wop P c nt d (.call ⟨.builtin .len,l,ts⟩) K fx fx e σ:=zj4 (λ_ _ _ _ _ h=>by cases h) (λ_ _=>rfl) rfl (λ_ _ _ h=>by cases h)
@[go_sem]theorem wtop_store:wtop P c nt n0 4 d (.store t x y) K fx fx e σ=wop P c nt d (.store t x y) K fx fx e σ:=zU0 (λ_ _ _ _ _ h=>by cases h) (λ_ _ h=>by cases h) (λ_ _=>rfl) (λ_ _ _ h=>by cases h)
@[go_sem]theorem wtop_append{l:Array Operand}:wtop P c nt n0 4 d (.call ⟨.builtin .append,l,ts⟩) K fx fx e σ=wop P c nt d (.call ⟨.builtin .append,l,ts⟩) K fx fx e σ:=zX0 (λ_ _ _ _ _ h=>by cases h) (λ_ _ h=>by cases h) (λ_ _ _ h=>by cases h)
@[go_sem]theorem wtop_alloc:wtop P c nt n0 3 d (.alloc t) K fx fx e σ=wop P c nt d (.alloc t) K fx fx e σ:=zz6 (λ_ _ _ _ _ h=>by cases h) (λ_ _=>rfl) (by simp only[evOp];unfold zm0;split<;>first|trivial|exact⟨sm,λ_=>.inl ⟨_,rfl⟩⟩) (λ_ _ _ h=>by cases h)
attribute [go_sem] yX9 yY0
@[go_sem]theorem wtop_call{f:Operand}{l:List Operand}:wtop P c nt n0 k d (.call ⟨.value f,l.toArray,ts⟩) K fx fx e σ=wVD P c n0 k (zF e f) (l.map (zF e)) σ (xF9 nt d K fx e) fx:=id rfl
attribute [go_sem] ze6
theorem xE{args:List V}{v:V}(hc:Pure P f args' v)(hb:wG P f=true)(aa:∀N,All2 (argS (ren [] N)) args' (args++caps))(hn:noS v=true)(hk:KV v σ):wVD P c n0 0 (.fn f caps) args σ KV fx:=by refine⟨v,σ,?_,λ_=>rfl,λ_=>KeepN.refl,A3 _,hk⟩;rw[if_pos rfl];exactλs=>zJ (P:=P) (c:=c) (KV:=λr s'=>r=v/\s'=s) hc hb (aa _) hn ⟨rfl,rfl⟩
theorem zu5{sel:List Nat}{σ:St}:(xC sel σ s1).length=σ.length+(s1.length-sel.length):=by simp[xC,xZ]
theorem xE8{args:List V}{σin:St}{v:V}(hc:VCalls P f args' σin (λr s=>r=v/\s=s1))(hb:wG P f=true)(sel:List Nat)(ab:sel.Nodup)(hlen:σin.length=sel.length)(ad:∀(i j:Nat)(o:Ob),sel[i]?=some j->σin[i]?=some o->σ[j]?=some (yC (ren sel σ.length) o))(aa:All2 (argS (ren sel σ.length)) args' (args++caps))(hk:KV (renS (ren sel σ.length) v) (xC sel σ s1)):wVD P c n0 4 (.fn f caps) args σ KV fx:=by refine⟨_,_,?_,λh=>om,λh=>om,by rw[zu5];omega,hk⟩;rw[if_neg dc,if_neg dc];refine VC.of hc hb sel ab hlen ad aa ?_;rintro r s ⟨rfl,rfl⟩_;exact⟨rfl,rfl⟩
theorem yP7{args:List V}{σin:St}{v:V}(hc:VCalls P f args' σin (λr s=>r=v/\s=s1))(hb:wG P f=true)(sel:List Nat)(ad:sel.Nodup)(hlen:σin.length=sel.length)(ae:∀(i j:Nat)(o:Ob),sel[i]?=some j->σin[i]?=some o->σ[j]?=some (yC (ren sel σ.length) o))(aa:All2 (argS (ren sel σ.length)) args' (args++caps))(ab:KeepN n0 σ (xC sel σ s1))(hk:KV (renS (ren sel σ.length) v) (xC sel σ s1)):wVD P c n0 3 (.fn f caps) args σ KV fx:=by refine⟨_,_,?_,λh=>om,λ_=>ab,by rw[zu5];omega,hk⟩;rw[if_neg dc,if_neg dc];refine VC.of hc hb sel ad hlen ae aa ?_;rintro r s ⟨rfl,rfl⟩_;exact⟨rfl,rfl⟩
theorem xE9{args:List V}{v:V}(hc:Pure P f args' v)(hb:wG P f=true)(hf:∀s,n0.of s=n0.of σ->∃aa σ1,Frz (args++caps) s aa σ1/\All2 (argS (ren [] σ1.length)) args' aa)(ab:yH9 v=true)(hk:KV v σ):wVD P c n0 1 (.fn f caps) args σ KV fx:=by refine⟨v,σ,?_,λ_=>rfl,λh=>om,A3 _,hk⟩;rw[if_neg dc,if_pos rfl];intro s hs;obtain⟨aa,σ1,h1,h2⟩:=hf s hs;exact VC.view hc hb h1 h2 (λr s h=>⟨h.2,by rw[h.1];exact ab⟩) λr h=>⟨h.1,rfl⟩
end
def At(n0:Nat)(keep:List Nat)(vs:List V)(s:St)(e:Env)(σ:St):Prop:=∃pick,Picks n0 pick σ s/\All2 (argS (ren pick σ.length)) vs (keep.map e)
def Next{S:Type}(p:S->Prop)(_:Fx p):Prop:=∃s,p s
theorem zG{S:Type}{p:S->Prop}(s:S)(h:p s):Next p fx:=⟨s,h⟩
section
variable{P:Program}{c:Ctx}{nt:Nat}{e:Env}{σ:St}{a:Act}{w:World}{L:Nat->Nat}{β:List Value}{Q:QT}{n0:Nat}
variable{keep:List Nat}{y:Code}{f:FuncId}{code:Code}{x:Code}{fn:Func}{rs:List ResultVar}{caps:List V}{args':List V}{KV:V->St->Prop}
theorem zA(h:zt6 P c nt code Q fx fx e σ):wVW P c nt code Q fx fx e σ:=zh1 code Q e σ h
theorem zT8{K:KT}(h:wVW P c nt x (ya3 K Q fx fx) fx fx e σ)(hy:∀e' σ',K e' σ'->wVW P c nt y Q fx fx e' σ'):wVW P c nt (.seq x y) Q fx fx e σ:=by intro a w L β hs;refine wp_seq (wp_mono (h a w L β hs) λex a' w' q=>?_);cases ex with |normal=>obtain⟨e',σ',L',β',aa,hq⟩:=q;exact hy e' σ' hq a' w' L' β' aa|exit id=>exact q|goto l=>exact q|ret=>exact q|panic ch=>exact q|outgrown=>exact q
theorem zR(h:wVW P c nt x (ya3 (wVW P c nt y Q fx fx) Q fx fx) fx fx e σ):wVW P c nt (.seq x y) Q fx fx e σ:=zT8 h λ_ _ h=>h
theorem za2{id:Nat}{b:Code}(h:wVW P c nt b (wblk id Q fx) fx fx e σ):wVW P c nt (.block id b) Q fx fx e σ:=by intro a w L β hs;refine wp_block (wp_mono (h a w L β hs) λex a' w' q=>?_);cases ex with
 |exit aa=>
  obtain⟨e',σ',L',β',ab,hq⟩:=q;change(if aa=id then Q .normal e' σ' else Q (.exit aa) e' σ')at hq;change(if aa=id then Lift c nt Q .normal a' w' else Lift c nt Q (.exit aa) a' w');split;.rename_i hid;rw[if_pos hid]at hq;exact⟨e',σ',L',β',ab,hq⟩
  .rename_i hid;rw[if_neg hid]at hq;exact⟨e',σ',L',β',ab,hq⟩|normal=>exact q|goto l=>exact q|ret=>exact q|panic ch=>exact q|outgrown=>exact q
theorem zT7{b:Bool}{x:Operand}{t f:Code}(hx:zF e x=.bool b)(ht:b=true->wVW P c nt t Q fx fx e σ)(hf:b=false->wVW P c nt f Q fx fx e σ):wVW P c nt (.cond x t f) Q fx fx e σ:=by intro a w L β hs;have hv:=hs.eval x;rw[hx]at hv;exact wp_cond_split (zd8 hv) (λh=>ht h a w L β hs) (λh=>hf h a w L β hs)
theorem xZ2{vs:List V}{s:St}(hn:c.σ0.length=n0)(hc:c.β0.length=c.σ0.length)(hk:At n0 keep vs s e σ)(hy:wVW P c nt y Q fx fx (envK (keep.zip vs)) s):wVW P c nt y Q fx fx e σ:=by intro a w L β hs;subst hn;obtain⟨pick,hp,aa⟩:=hk;obtain⟨vs',s',β',⟨rfl,rfl⟩,_,ab⟩:=zP6 (Inv:=λvs' s' _=>vs'=vs/\s'=s) (m:=0) hs hc ⟨vs,s,pick,hp,aa,rfl,rfl⟩;exact hy a w L β' ab
theorem xX{S:Type}(keep:List Nat)(aa:S->List V)(ab:S->St)(I:S->Prop)(hn:c.σ0.length=n0)(hc:c.β0.length=c.σ0.length)(hx:wVW P c nt x (ya3 (λe' σ'=>Next (λs=>I s/\At n0 keep (aa s) (ab s) e' σ') fx) Q fx fx) fx fx e σ)(hy:∀s,I s->wVW P c nt y Q fx fx (envK (keep.zip (aa s))) (ab s)):wVW P c nt (.seq x y) Q fx fx e σ:=zT8 hx λ_ _⟨s,hI,ad⟩=>xZ2 hn hc ad (hy s hI)
theorem zH{body:Code}{S:Type}(keep:List Nat)(aa:S->List V)(ad:S->St)(ab:S->Nat)(I:S->Prop)(hn:c.σ0.length=n0)(hc:c.β0.length=c.σ0.length)(s0:S)(hI:I s0)(h0:At n0 keep (aa s0) (ad s0) e σ)(hr:∀s,I s->wVW P c nt body (ya3 (λe' σ'=>Next (λs'=>ab s'<ab s/\I s'/\At n0 keep (aa s') (ad s') e' σ') fx) Q fx fx) fx fx (envK (keep.zip (aa s))) (ad s)):wVW P c nt (.loop body) Q fx fx e σ:=by
 subst hn;intro a w L β hs;refine ya2 (λm a w=>∃s L β,m=ab s/\I s/\Sim c nt (envK (keep.zip (aa s))) (ad s) a w L β) (ab s0) ?_ ?_;.obtain⟨pick,hp,ae⟩:=h0;obtain⟨vs',s',β',⟨rfl,rfl⟩,_,af⟩:=zP6 (Inv:=λvs' s' _=>vs'=aa s0/\s'=ad s0) (m:=0) hs hc ⟨_,_,pick,hp,ae,rfl,rfl⟩;exact⟨s0,L,β',rfl,hI,af⟩
 .rintro m a w ⟨s,L,β,rfl,ag,hs⟩;refine wp_mono (hr s ag a w L β hs) λx a' w' q=>?_;cases x with |normal=>obtain⟨e',σ',L',β',af,s',ah,ai,pick,hp,ae⟩:=q;obtain⟨vs',s2,β2,⟨rfl,rfl⟩,_,aj⟩:=zP6 (Inv:=λvs' s2 _=>vs'=aa s'/\s2=ad s') (m:=0) af hc ⟨_,_,pick,hp,ae,rfl,rfl⟩;exact⟨ab s',ah,s',L',β2,rfl,ai,aj⟩|exit id=>exact q|goto l=>exact q|ret=>exact q|panic ch=>exact q|outgrown=>exact q
theorem zL{ρ:Nat->Nat}{l m:List V}(h:l=m)(hn:l.all noS=true):All2 (argS ρ) l m:=by subst h;exact yA hn
theorem zd5{n N:Nat}:∀{l:List V},l.all (ltS n)=true->All2 (argS (ren (List.range n) N)) l l
 |[],_=>trivial|v::l,h=>by simp only[Ap,A6]at h;exact⟨zq2 h.1,zd5 h.2⟩
theorem zC{n N:Nat}{l m:List V}(h:l=m)(hn:l.all (ltS n)=true):All2 (argS (ren (List.range n) N)) l m:=by subst h;exact zd5 hn
theorem at_0{vs:List V}{ρN:Nat}(hN:σ.length=ρN)(h:All2 (argS (ren [] ρN)) vs (keep.map e)):At 0 keep vs [] e σ:=by subst hN;exact⟨[],⟨rfl,D0,λi j o h=>by simp at h,λi h=>absurd h (Bg i)⟩,h⟩
theorem at_n(k:Nat){vs:List V}{s:St}(hs:σ.take k=s)(hk:s.length=k)(hok:s.all (ltOb k)=true)(hn:n0<=k)(h:All2 (argS (ren (List.range k) σ.length)) vs (keep.map e)):At n0 keep vs s e σ:=by subst hs;have h1:σ.take k++σ.drop k=σ:=Bq k σ;have hp:=yt1 (n0:=n0) (s:=σ.take k) (loc:=σ.drop k) (by rw[hk];exact hok) (by rw[hk];exact hn);rw[h1,hk]at hp;exact⟨_,hp,h⟩
theorem zD2(pick:List Nat){vs:List V}{s:St}(ad:pick.Nodup)(hn:n0=0)(aa:All2 (λo j=>σ[j]?=some (yC (ren pick σ.length) o)) s pick)(h:All2 (argS (ren pick σ.length)) vs (keep.map e)):At n0 keep vs s e σ:=by subst hn;refine⟨pick,⟨aa.length,ad,λi j o hi ho=>?_,λi h=>absurd h (Bg i)⟩,h⟩;obtain⟨j',ab,hr⟩:=aa.get i o ho;rw[hi]at ab;cases ab;exact hr
theorem VCalls.introV{nt:Nat}{args:List V}{R:V->St->Prop}(n0:Nat)(hf:P.funcs[f]?=some fn)(aa:fn.ntmps=nt)(ab:fn.results=rs.toArray)(hb:fn.body=some code)(h0:σ.length=n0)(ad:args.length<=nt)(h:∀c:Ctx,c.σ0.length=n0->c.β0.length=c.σ0.length->wVW P c nt code (retQ P rs n0 R) fx fx (envA 0 args) σ):VCalls P f args σ R:=VCalls.introW n0 hf aa ab hb h0 ad h
theorem zp2(t:Nat)(hn:nt<=100000)(hy:wVW P c nt y Q fx fx (upd e (100000+t) (.tup [])) σ):wVW P c nt y Q fx fx e σ:=by
 intro a w L β hs;refine hy a w L β ⟨hs.mem,hs.size,hs.defs,λk=>?_⟩;simp only[upd];split
 .rename_i hk;subst hk;refine⟨[],?_,tV⟩;have:¬(100000+t<a.tmps.size):=by rw[hs.size];omega
  simp[Array.getD,this,undef]
 .exact hs.env k
theorem zq8(id s:Nat)(rows:List (List V))(hσ:σ[id]?=some (.lst rows s))(hp:xQ rows=true)(hy:wVW P c nt y Q fx fx (λt=>frzS id rows (e t)) (zn3 id rows σ)):wVW P c nt y Q fx fx e σ:=by intro a w L β hs;obtain⟨h1,h2,h3,h4⟩:=xa6 hs.mem hσ hp;exact hy a w _ β ⟨h1,hs.size,hs.defs,λt=>h4 _ _ (hs.env t)⟩
theorem xE6{args ab:List V}{v:V}{σ1:St}(hc:Pure P f args' v)(hb:wG P f=true)(hf:Frz (args++caps) σ ab σ1)(aa:All2 (argS (ren [] σ1.length)) args' ab)(ad:yH9 v=true)(hk:KV v σ):wVC P c (.fn f caps) args σ KV fx:=VC.view hc hb hf aa (λr s h=>⟨h.2,by rw[h.1];exact ad⟩) λr h=>by rw[h.1];exact hk
attribute[go_sem] frzS frzA frzC frzK zR0 zn3
attribute[go_sem] Ei List.zip_nil_left List.zip_nil_right
theorem iV{nt:Nat}{args:List V}{R:V->St->Prop}(n0:Nat)(hf:P.funcs[f]?=some fn)(aa:fn.ntmps=nt)(ab:fn.results=rs.toArray)(h:∀c:Ctx,c.σ0.length=n0->c.β0.length=c.σ0.length->wVW P c nt code (retQ P rs n0 R) fx fx (envA 0 args) σ)(hb:fn.body=some code:=by rfl)(h0:σ.length=n0:=by rfl)(ad:args.length<=nt:=by exact D1 rfl):VCalls P f args σ R:=VCalls.introV n0 hf aa ab hb h0 ad h
theorem iW{nt:Nat}{args:List V}{R:V->St->Prop}(n0:Nat)(hf:P.funcs[f]?=some fn)(aa:fn.ntmps=nt)(ab:fn.results=rs.toArray)(h:∀c:Ctx,c.σ0.length=n0->c.β0.length=c.σ0.length->zz4 P c nt code (retQ P rs n0 R) (envA 0 args) σ)(hb:fn.body=some code:=by rfl)(h0:σ.length=n0:=by rfl)(ad:args.length<=nt:=by exact D1 rfl):VCalls P f args σ R:=VCalls.intro n0 hf aa ab hb h0 ad h
theorem aN(k:Nat){vs:List V}{s:St}(hok:s.all (ltOb k)=true)(hs:σ.take k=s:=by simp[go_sem])(hk:s.length=k:=by rfl)(hn:n0<=k:=by omega)(h:vs=keep.map e:=by simp[go_sem])(hv:vs.all (ltS k)=true:=by rfl):At n0 keep vs s e σ:=at_n k hs hk hok hn (zC h hv)
theorem aM(k:Nat){vs:List V}{s:St}(hok:s.all (ltOb k)=true)(h:All2 (argS (ren (List.range k) σ.length)) vs (keep.map e))(hs:σ.take k=s:=by simp[go_sem])(hk:s.length=k:=by rfl)(hn:n0<=k:=by omega):At n0 keep vs s e σ:=at_n k hs hk hok hn h
theorem aO{vs:List V}(h:vs=keep.map e:=by simp[go_sem])(hv:vs.all noS=true:=by rfl):At 0 keep vs [] e σ:=at_0 rfl (zL h hv)
theorem pC{args:List V}{v:V}(hc:Pure P f args' v)(hk:KV v σ)(aa:All2 (argS (ren [] σ.length)) args' (args++caps):=by first|exact yA rfl|exact⟨zQ,yA rfl⟩|exact⟨zQ,zQ,yA rfl⟩|exact⟨zD rfl,zQ,yA rfl⟩|exact⟨zQ,zQ,zQ,yA rfl⟩|exact⟨zQ,zD rfl,zQ,yA rfl⟩|exact⟨zD rfl,zQ,zQ,yA rfl⟩|exact⟨zD rfl,zD rfl,zQ,yA rfl⟩|exact⟨zQ,zQ,zQ,zQ,yA rfl⟩|exact⟨zQ,zQ,zD rfl,zQ,yA rfl⟩|exact⟨zQ,zD rfl,zQ,zQ,yA rfl⟩|exact⟨zQ,zD rfl,zD rfl,zQ,yA rfl⟩|exact⟨zD rfl,zQ,zQ,zQ,yA rfl⟩|exact⟨zD rfl,zQ,zD rfl,zQ,yA rfl⟩|exact⟨zD rfl,zD rfl,zQ,zQ,yA rfl⟩|exact⟨zD rfl,zD rfl,zD rfl,zQ,yA rfl⟩)(hb:wG P f=true:=by kernel_rfl)(hn:noS v=true:=by rfl):wVC P c (.fn f caps) args σ KV fx:=zJ hc hb aa hn hk
theorem pD{n0:Kp}{args:List V}{v:V}(hc:Pure P f args' v)(hk:KV v σ)(aa:∀N,All2 (argS (ren [] N)) args' (args++caps):=by first|exactλ_=>yA rfl|exactλ_=>⟨zQ,yA rfl⟩|exactλ_=>⟨zQ,zQ,yA rfl⟩|exactλ_=>⟨zD rfl,zQ,yA rfl⟩|exactλ_=>⟨zQ,zQ,zQ,yA rfl⟩|exactλ_=>⟨zQ,zD rfl,zQ,yA rfl⟩|exactλ_=>⟨zD rfl,zQ,zQ,yA rfl⟩|exactλ_=>⟨zD rfl,zD rfl,zQ,yA rfl⟩|exactλ_=>⟨zQ,zQ,zQ,zQ,yA rfl⟩|exactλ_=>⟨zQ,zQ,zD rfl,zQ,yA rfl⟩|exactλ_=>⟨zQ,zD rfl,zQ,zQ,yA rfl⟩|exactλ_=>⟨zQ,zD rfl,zD rfl,zQ,yA rfl⟩|exactλ_=>⟨zD rfl,zQ,zQ,zQ,yA rfl⟩|exactλ_=>⟨zD rfl,zQ,zD rfl,zQ,yA rfl⟩|exactλ_=>⟨zD rfl,zD rfl,zQ,zQ,yA rfl⟩|exactλ_=>⟨zD rfl,zD rfl,zD rfl,zQ,yA rfl⟩)(hb:wG P f=true:=by kernel_rfl)(hn:noS v=true:=by rfl):wVD P c n0 0 (.fn f caps) args σ KV fx:=xE hc hb aa hn hk
theorem wR{R:V->St->Prop}{v r:V}(hr:argS (ren [] σ.length) r v:=by exact zD rfl)(hR:R r []:=by exact⟨rfl,rfl⟩):wret (some v) 0 R σ:=wA hr hR
end
mutual
inductive Shp(P:Program):TypeId->List V->Prop|bool{t:TypeId}(b:Bool):P.underlying t=some .bool->Shp P t [.bool b]|int{t:TypeId}{k:IntKind}{n:Int}:P.underlying t=some (.int k)->(Lit.int k n).wf=true->Shp P t [.int k n]|str{t:TypeId}{s:List UInt8}:P.underlying t=some .string->s.length<=maxLen->Shp P t [.str s]|sl{t e:TypeId}{rows:List (List V)}:P.underlying t=some (.slice e)->rows.length<=maxLen->ShpR P e rows->Shp P t [.sl .ro rows]|struct{t:TypeId}{fs:Array Field}{cells:List V}:P.underlying t=some (.struct fs)->ShpF P (fs.toList.map (·.type)) cells->Shp P t cells
inductive ShpR(P:Program):TypeId->List (List V)->Prop|nil{e:TypeId}:ShpR P e []|cons{e:TypeId}{r:List V}{rows:List (List V)}:Shp P e r->ShpR P e rows->ShpR P e (r::rows)inductive ShpF(P:Program):List TypeId->List V->Prop|nil:ShpF P [] []|cons{t:TypeId}{ts:List TypeId}{a b:List V}:Shp P t a->ShpF P ts b->ShpF P (t::ts) (a++b)end
def zE1(P:Program):Nat->List Field->Nat->Bool |o,[],n=>o==n|o,f::fs,n=>f.offset==o&&zE1 P (o+P.cellsOf f.type) fs n
def okT(P:Program)(T:List TypeId):Bool:=T.all λt=>match P.underlying t with |some .bool|some (.int _)|some .string=>true|some (.slice e)=>T.contains e&&decide (0<P.cellsOf e)|some (.struct fs)=>fs.all (λf=>T.contains f.type)&&zE1 P 0 fs.toList (P.cellsOf t)|_=>false
def lims(w:World):Nat->Nat:=λb=>match w.heap[b]?with|some (.cells c _ _)=>c.size|_=>0
section
variable{H:Type}{enc:TypeId×Value->H}{P:Program}{w:World}{base:Nat}{spare:Nat->Bool}{held:Bool}
theorem xb8{b o:Nat}{x:Value}(h:w.cell? ⟨b,o,none⟩=some x):o<lims w b:=by
 unfold World.cell? at h;unfold lims;simp only at h;split at h;.rename_i c _ _ hb;rw[hb];simp only[Option.isSome_none,Bj,if_false]at h;exact(Ao.1 h).1
 .cases h
theorem xd1{T:List TypeId}(hT:okT P T=true){t:TypeId}(h:t∈T):(match P.underlying t with |some .bool|some (.int _)|some .string=>true|some (.slice e)=>T.contains e&&decide (0<P.cellsOf e)|some (.struct fs)=>fs.all (λf=>T.contains f.type)&&zE1 P 0 fs.toList (P.cellsOf t)|_=>false)=true:=by unfold okT at hT;rw[Af]at hT;exact hT t h
inductive Sm(M:Nat):V->Prop|bool(b:Bool):Sm M (.bool b)|int(k:IntKind)(n:Int):Sm M (.int k n)|str{s:List UInt8}:s.length<=M->Sm M (.str s)|sl{g:Tag}{rows:List (List V)}:rows.length<=M->(∀r∈rows,∀v∈r,Sm M v)->Sm M (.sl g rows)|agg{cs:List V}:(∀v∈cs,Sm M v)->Sm M (.agg cs)
structure BulkOk{H:Type}(B:DataW H->Nat)(BA:List (DataW H)->Nat):Prop where
 str:∀s:List UInt8,s.length<=B (.lit (.string s))sl:∀es sp,BA es<=B (.slice es sp)agg:∀ps,BA ps<=B (.agg ps)mem:∀d l,d∈l->B d<=BA l
 len:∀l:List (DataW H),l.length<=BA l
def SmD{H:Type}(d:DataW H)(vs:List V):Prop:=∀(B:DataW H->Nat)(BA:List (DataW H)->Nat),BulkOk B BA->∀M,B d<=M->∀v∈vs,Sm M v
theorem zP2{T:List TypeId}(hT:okT P T=true):∀(fuel:Nat)(t:TypeId)(cs:List Value)(x:DataW H×List MemPlace),t∈T->DataW.trod enc P w base spare held fuel t cs=some x->∃vs,Shp P t vs/\All2 (RdP w (lims w)) vs cs/\SmD x.1 vs
 |0,t,cs,x,_,h=>by simp[DataW.trod]at h|fuel+1,t,cs,x,ht,h=>by
  have hk:=xd1 hT ht;split at hk;.rename_i hu;obtain⟨b,rfl,_⟩:=DataW.trod_bool hu h;exact⟨[.bool b],.bool b hu,⟨.bool b,tV⟩,λ_ _ _ _ _ v hv=>by simp at hv;subst hv;exact .bool b⟩
  .rename_i k hu;obtain⟨n,rfl,_,hw⟩:=DataW.trod_int hu h;exact⟨[.int k n],.int hu hw,⟨.int k n,tV⟩,λ_ _ _ _ _ v hv=>by simp at hv;subst hv;exact .int k n⟩
  .rename_i hu;obtain⟨s,rfl,rfl,hs⟩:=DataW.trod_string hu h;have hr:RdP w (lims w) (.str s.data.toList) (.string ⟨s.data.toList.toArray⟩):=.str _;exact⟨[.str s.data.toList],.str hu (by simpa using hs),⟨hr,tV⟩,λB BA hB M hM v hv=>by simp at hv;subst hv;exact .str (by have:=hB.str s.data.toList;simp only at hM;simp at this hM⊢;omega)⟩
  .rename_i e hu;simp only[A6,decide_eq_true_eq,List.contains_iff_mem]at hk;obtain⟨he,af⟩:=hk;rcases DataW.trod_slice hu h with⟨rfl,_⟩|⟨a,len,cap,elems,rest,n,a6,rfl,ag,hb,hl,hm,hlen,a7,_,_⟩;.exact⟨[.sl .ro []],.sl hu (A2 _) .nil,⟨.sl0 _ _ _ (λq=>by cases q) (λ_=>sm),tV⟩,λ_ _ _ _ _ v hv=>by simp at hv;subst hv;exact .sl (A2 _) sm⟩
   .obtain rfl:fuel=n:=om;have each:∀i,i<len->∃(vs:List V)(ab:List Value),Shp P e vs/\All2 (RdP w (lims w)) vs ab/\ab.length=P.cellsOf e/\(∀j,j<P.cellsOf e->w.cell? ((a.add (i*P.cellsOf e)).add j)=ab[j]?)/\∃d∈elems.map (·.1),SmD d vs:=by intro i hi;have h1:=a7 i hi;rw[A0 om]at h1;cases hc:w.cells? base (a.add (i*P.cellsOf e)) (P.cellsOf e)with |none=>rw[hc]at h1;cases h1|some ab=>rw[hc]at h1;obtain⟨_,ae,aa⟩:=World.cells?_some hc;obtain⟨vs,hs,hr,ah⟩:=zP2 hT fuel e ab _ he h1;exact⟨vs,ab,hs,hr,ae,aa,_,Ac.2 ⟨_,A8 _,rfl⟩,ah⟩
    rcases Nat.eq_zero_or_pos len with rfl|a8;.exact⟨[.sl .ro []],.sl hu (A2 _) .nil,⟨.sl0 _ _ _ (λq=>by cases q) (λ_=>sm),tV⟩,λ_ _ _ _ _ v hv=>by simp at hv;subst hv;exact .sl (A2 _) sm⟩
    .obtain⟨b,o,spot⟩:=a;have ai:spot=none:=by obtain⟨vs,ab,_,_,ae,aa,_⟩:=each 0 a8;have h0:=aa 0 af;rw[A0 om]at h0;simp only[Cf,Addr.add,if_true]at h0;cases spot with |none=>rfl|some _=>
       exfalso;unfold World.cell? at h0;split at h0;.simp at h0
       .cases h0
     subst ai;have al:∀i j,((⟨b,o,none⟩:Addr).add (i*P.cellsOf e)).add j=⟨b,o+i*P.cellsOf e+j,none⟩:=by intro i j;rw[wE,wE]
     have key:∀m,m<=len->∃rows:List (List V),rows.length=m/\ShpR P e rows/\(∀r∈rows,r.length=P.cellsOf e)/\(∀r∈rows,∃d∈elems.map (·.1),SmD d r)/\∀i j(hi:i<rows.length)(hj:j<rows[i].length),∃x,w.cell? ⟨b,o+(len-m+i)*P.cellsOf e+j,none⟩=some x/\RdP w (lims w) (rows[i][j]) x:=by intro m;induction m with |zero=>exactλ_=>⟨[],rfl,.nil,λ_ q=>by simp at q,λ_ q=>by simp at q,λi j hi=>by simp at hi⟩|succ m ih=>
       intro hm;obtain⟨rows,h1,h2,h3,aj,h4⟩:=ih om;obtain⟨vs,ab,hs,hr,ae,aa,ah⟩:=each (len-(m+1)) om;refine⟨vs::rows,by simp[h1],.cons hs h2,λr ad=>?_,λr ad=>?_,λi j hi hj=>?_⟩
       .rcases Ag.1 ad with rfl|ad;.rw[hr.length,ae]
        .exact h3 r ad
       .rcases Ag.1 ad with rfl|ad;.exact ah
        .exact aj r ad
       .cases i with |zero=>simp only[List.getElem_cons_zero]at hj⊢;obtain⟨x,hx,ak⟩:=hr.get j _ (A0 hj);refine⟨x,?_,ak⟩;have:=aa j (by rw[<-ae,<-hr.length];exact hj);rw[al,hx]at this;simpa using this|succ i=>simp only[List.getElem_cons_succ]at hj⊢;obtain⟨x,hx,ak⟩:=h4 i j (by simpa using hi) hj;refine⟨x,?_,ak⟩;rw[show len-(m+1)+(i+1)=len-m+i by omega];exact hx
     obtain⟨rows,h1,h2,h3,aj,h4⟩:=key len (A3 _);have an:len-len=0:=om;rw[an]at h4;simp only[Ab]at h4;subst h1;refine⟨[.sl .ro rows],.sl hu om h2,⟨?_,tV⟩,λB BA hB M hM v hv=>by simp at hv;subst hv;rw[ag]at hM;have q1:=hB.sl (elems.map (·.1)) (rest.map (·.1));have q2:=hB.len (elems.map (·.1));rw[Ay]at q2;simp only at hM;refine .sl om λr hr v hv=>?_;obtain⟨d,hd,aA⟩:=aj r hr;have q3:=hB.mem _ _ hd;exact aA B BA hB M om v hv⟩;let c:Nat->Nat->Value:=λi j=>(w.cell? ⟨b,o+i*P.cellsOf e+j,none⟩).getD undef;refine .sl .ro rows (P.cellsOf e) b o cap c (λ_=>sm) af h3 ?_ hl (λq=>by cases q) (λi j hi hj=>?_) (λi j hi hj=>?_)
     .obtain⟨x,hx,_⟩:=h4 (rows.length-1) (P.cellsOf e-1) om (by rw[h3 _ (A8 _)];omega);have aH:=xb8 hx;have h5:(rows.length-1)*P.cellsOf e+P.cellsOf e=rows.length*P.cellsOf e:=by rw[<-Nat.succ_mul];congr 1;omega
      omega
     .obtain⟨x,hx,_⟩:=h4 i j hi (by rw[h3 _ (A8 _)];exact hj);simp[c,hx]
     .obtain⟨x,hx,hr⟩:=h4 i j hi hj;simp only[c,hx,Ea];exact hr
  .rename_i fs hu;simp only[A6,D5,List.contains_iff_mem]at hk;obtain⟨ao,aq⟩:=hk;obtain⟨xs,n,a6,ag,hlen,aB,ar⟩:=DataW.trod_struct hu h;obtain rfl:fuel=n:=om;have key:∀(l:List Field)(pre:List Field)(off:Nat),fs.toList=pre++l->zE1 P off l (P.cellsOf t)=true->off<=cs.length->∃vs,ShpF P (l.map (·.type)) vs/\All2 (RdP w (lims w)) vs (cs.drop off)/\SmD (.agg (xs.map (·.1))) vs:=by intro l;induction l with
    |nil=>
     intro pre off _ hr _;unfold zE1 at hr;have:off=P.cellsOf t:=by simpa using hr
     refine⟨[],.nil,?_,λ_ _ _ _ _ v hv=>by simp at hv⟩;rw[A9 om];trivial|cons f l ih=>
     intro pre off au hr hle;unfold zE1 at hr;simp only[A6,beq_iff_eq]at hr;obtain⟨av,hr⟩:=hr;have hf:fs[pre.length]?=some f:=by
      have:fs.toList[pre.length]?=some f:=by rw[au];simp
      simpa using this
     have hx:=ar pre.length f hf;have aw:pre.length<xs.length:=by rw[aB];exact(Ao.1 hf).1
     rw[A0 aw,av]at hx;obtain⟨aC,ax,ay,az⟩:=zP2 hT fuel f.type _ _ (ao f (Array.mem_of_getElem? hf)) hx;have a1:off+P.cellsOf f.type<=cs.length:=by
      rw[hlen];clear ih hx ar ax ay az;revert hr;generalize off+P.cellsOf f.type=o2;intro hr;have:∀(l:List Field)(o:Nat),zE1 P o l (P.cellsOf t)=true->o<=P.cellsOf t:=by intro l;induction l with |nil=>intro o h;unfold zE1 at h;simp at h;omega|cons f l ih=>intro o h;unfold zE1 at h;simp at h;have:=ih _ h.2;omega
      exact this l o2 hr
     obtain⟨aD,aE,aF,aG⟩:=ih (pre++[f]) (off+P.cellsOf f.type) (by rw[au];simp) hr a1;refine⟨aC++aD,.cons ax aE,?_,λB BA hB M hM v hv=>by
      rcases Aq.1 hv with hv|hv;.have q1:=hB.agg (xs.map (·.1));have q2:=hB.mem (xs[pre.length]'aw).1 (xs.map (·.1)) (Ac.2 ⟨_,A8 _,rfl⟩);exact az B BA hB M om v hv
      .exact aG B BA hB M hM v hv⟩;have e:cs.drop off=(cs.drop off).take (P.cellsOf f.type)++cs.drop (off+P.cellsOf f.type):=by rw[<-E7];exact(Bq _ _).symm
     rw[e];exact ay.append aF
   obtain⟨vs,h1,h2,h3⟩:=key fs.toList [] 0 rfl aq (A2 _);exact⟨vs,.struct hu h1,by simpa using h2,by rw[ag];exact h3⟩
  .cases hk
def zN1(P:Program)(t:TypeId)(vs:List V):V:=match P.underlying t with|some (.struct _)=>.agg vs|_=>vs.headD .u
inductive ShpA(P:Program):List TypeId->List V->Prop|nil:ShpA P [] []|cons{t:TypeId}{ts:List TypeId}{vs:List V}{xs:List V}:Shp P t vs->ShpA P ts xs->ShpA P (t::ts) (zN1 P t vs::xs)
theorem yT7{W:World}{r:Reach}{b:Nat}{t:TypeId}{v:Value}{T:List TypeId}(hT:okT P T=true)(ht:t∈T)(h:Value.okWide P W r b t v):(∃fs cs,P.underlying t=some (.struct fs)/\v=.agg cs)∨((∀fs,P.underlying t≠some (.struct fs))/\v.oneCell'=true):=by
 have hk:=xd1 hT ht;split at hk;.rename_i hu;refine .inr ⟨λfs q=>(by rw[hu]at q;cases q),?_⟩;cases v<;>simp[Value.okWide,hu,Cell.okWide,Cell.ok]at h<;>rfl
 .rename_i k hu;refine .inr ⟨λfs q=>(by rw[hu]at q;cases q),?_⟩;cases v<;>simp[Value.okWide,hu,Cell.okWide,Cell.ok]at h<;>rfl
 .rename_i hu;refine .inr ⟨λfs q=>(by rw[hu]at q;cases q),?_⟩;cases v<;>simp[Value.okWide,hu,Cell.okWide,Cell.ok]at h<;>rfl
 .rename_i e hu;refine .inr ⟨λfs q=>(by rw[hu]at q;cases q),?_⟩;cases v<;>simp[Value.okWide,hu,Cell.okWide,Cell.ok]at h<;>rfl
 .rename_i fs hu;refine .inl ⟨fs,?_⟩;simp only[Value.okWide,hu]at h;obtain⟨cs,rfl,_⟩:=h;exact⟨cs,hu,rfl⟩
 .cases hk
theorem zN2{T:List TypeId}(hT:okT P T=true):∀(ts:List TypeId)(aa:List Value)(ds:List (DataW H))(ps:List MemPlace),(∀t∈ts,t∈T)->(∀(j:Nat) t v,ts[j]?=some t->aa[j]?=some v->Value.okWide P w .any base t v)->DataW.TrodAll enc P w 0 spare held ts aa ds ps->∃xs,ShpA P ts xs/\All2 (RdS w (lims w) [] []) xs aa/\∀(B:DataW H->Nat)(BA:List (DataW H)->Nat),BulkOk B BA->∀M,(∀d∈ds,B d<=M)->∀v∈xs,Sm M v
 |[],[],_,_,_,_,_=>⟨[],.nil,tV,λ_ _ _ _ _ v hv=>by simp at hv⟩|t::ts,v::aa,ds,ps,hm,hok,h=>by
  obtain⟨v',vs',d,ae,p,q,hv,rfl,rfl,h1,h2⟩:=ChangeShapes.trodAll_cons h;cases hv;obtain⟨xs,af,ag,ah⟩:=zN2 hT ts aa ae q (λt ht=>hm t (by simp[ht])) (λj t' v' h1 h2=>hok (j+1) t' v' (by simpa using h1) (by simpa using h2)) h2;obtain⟨fuel,hf⟩:=h1;obtain⟨vs,hs,hr,ai⟩:=zP2 hT fuel t _ _ (hm t sm) hf;suffices hall:RdS w (lims w) [] [] (zN1 P t vs) v/\∀M,(∀v∈vs,Sm M v)->Sm M (zN1 P t vs)from⟨zN1 P t vs::xs,.cons hs af,⟨hall.1,ag⟩,λB BA hB M hM v' ab=>by
    rcases Ag.1 ab with rfl|ab;.exact hall.2 M λv hv=>ai B BA hB M (hM _ sm) v hv
    .exact ah B BA hB M (λd hd=>hM d (by simp[hd])) v' ab⟩;rcases yT7 hT (hm t sm) (hok 0 t v rfl rfl)with⟨fs,cs,hu,rfl⟩|⟨aj,ad⟩;.unfold zN1;rw[hu];exact⟨⟨cs.toList,sm,hr.imp λ_ _ r=>RdC.of_pure r⟩,λM hM=>.agg hM⟩
  .rw[zA6 ad]at hr;have:zN1 P t vs=vs.headD .u:=by
    unfold zN1;split;.rename_i fs hu;exact absurd hu (aj fs)
    .rfl
   rw[this];cases vs with |nil=>exact hr.elim|cons x vs=>exact⟨RdS.of_cell (RdC.of_pure hr.1),λM hM=>hM _ sm⟩
 |[],_::_,_,_,_,_,h=>by cases(ChangeShapes.trodAll_nil h).1|_::_,[],ds,_,_,_,h=>by cases ds<;>simp[DataW.TrodAll]at h
theorem zA2{w':World}{sp':Nat->Bool}(hl:laidOutB P=true):∀(ts:List TypeId)(aa:List Value)(ds:List (DataW H))(ps:List MemPlace),(∀t∈ts,P.readableRec t=true/\t<P.types.size)->DataW.TrodAll enc P w 0 (λ_=>true) true ts aa ds ps->(∀x∈ps,w.sameAt w' x)->(∀x∈ps,sp' x.block=true)->DataW.TrodAll enc P w' 0 sp' true ts aa ds ps
 |[],_,_,_,_,h,_,_=>by obtain⟨rfl,rfl,rfl⟩:=ChangeShapes.trodAll_nil h;rfl|t::ts,aa,ds,ps,hr,h,hs,hp=>by obtain⟨v,vs',d,ab,p,q,rfl,rfl,rfl,h1,h2⟩:=ChangeShapes.trodAll_cons h;exact⟨p,q,WideElems.Trod_stays hl (hr t sm).1 (hr t sm).2 h1 (λx hx=>hs x (by simp[hx])) (λx hx=>hp x (by simp[hx])),zA2 hl ts vs' ab q (λt ht=>hr t (by simp[ht])) h2 (λx hx=>hs x (by simp[hx])) (λx hx=>hp x (by simp[hx])),rfl⟩
theorem xj9(w:World)(ht:GlobOk w (lims w)):Mem (entry w (lims w) [] []) w (lims w) [] []:=⟨rfl,λi o x h=>by simp at h,λi j o o' x x' b _ h=>by simp at h,λi o x b h=>by simp at h,λb hb hx=>⟨rfl,rfl⟩,Le.refl _ _,A3 _,rfl,rfl,rfl,A3 _,λb hb=>by have hb:w.heap.size<=b:=hb;unfold lims;rw[Array.getElem?_eq_none hb],Ext.refl _ _,ht⟩
theorem xj2{f:FuncId}{fn:Func}{s:ChangeSpec}{apart fresh handsOn again:Bool}(T ts:List TypeId)(tb:TypeId)(ao:fn.params=ts.toArray)(ag:fn.resultTypes=#[tb])(hb:P.underlying tb=some .bool)(hT:okT P T=true)(aq:ts.all (T.contains ·)=true)(ah:ts.all (λt=>P.readableRec t&&decide (t<P.types.size))=true)(hl:laidOutB P=true)(aa:s.vars=[])(ai:∀(H:Type)(ds:List (DataW H)),ds.length=ts.length->s.fn H ds={results:=[.lit (.bool true)],args:=ds})(ar:List V->Prop)(hw:∀xs,ShpA P ts xs->ar xs->VCalls P f xs [] λr _=>r=.bool true)(H:Type)(enc:TypeId×Value->H)(W:World)(base:Nat)(args:Array Value)(ds gs:List (DataW H))(before:List MemPlace)(au:∀(j:Nat) t v,fn.params[j]?=some t->args[j]?=some v->Value.okWide P W .any base t v)(hW:DataW.Whole enc P fn.params.toList s.vars apart W args.toList ds gs before)(aj:GlobOk W (lims W))(hlim:∀xs,(∀(B:DataW H->Nat)(BA:List (DataW H)->Nat),BulkOk B BA->∀M,(∀d∈ds++gs,B d<=M)->∀v∈xs,Sm M v)->ar xs):Calls P f args W λe W'=>∃v,e=.returned v/\s.post enc P fn apart fresh handsOn again W args v W':=by
 have ak:=hW;obtain⟨p,q,hA,hV,rfl,av,aw⟩:=hW;rw[aa]at hV;obtain⟨rfl,rfl⟩:=ChangeShapes.trodVars_none hV;have al:fn.params.toList=ts:=by rw[ao]
 rw[al]at hA;rw[Af]at aq ah;obtain⟨xs,hx,hr,az⟩:=zN2 (base:=base) hT ts args.toList ds p (λt ht=>by simpa using aq t ht) (λj t v h1 h2=>au j t v (by rw[ao];simpa using h1) (by simpa using h2)) hA;have hlen:ds.length=ts.length:=by
  have:∀(ts:List TypeId)(ad:List Value)(ds:List (DataW H))(p:List MemPlace),DataW.TrodAll enc P W 0 (λ_=>true) true ts ad ds p->ds.length=ts.length:=by intro ts;induction ts with |nil=>intro ad ds p h;obtain⟨_,rfl,_⟩:=ChangeShapes.trodAll_nil h;rfl|cons t ts ih=>intro ad ds p h;obtain⟨_,_,_,a6,_,_,_,rfl,_,_,h2⟩:=ChangeShapes.trodAll_cons h;simp[ih _ _ _ h2]
  exact this ts _ _ _ hA
 have ae:=hw xs hx (hlim xs λB BA hB M hM=>az B BA hB M λd hd=>hM d (by simp[hd])) W (lims W) [] args.toList (xj9 W aj) hr;have ax:args.toList.toArray=args:=sm;rw[ax]at ae;refine ae.mono ?_;rintro e W' ⟨v,r,L',σ',β',rfl,rfl,_,hm,ay⟩;have a1:v=.bool true:=zd8 ay;subst a1;have ab:RowKit.Below W.heap.size W W':=⟨hm.os,hm.tape,hm.output,hm.size,λk hk=>(hm.same k hk (by simp[entry,zk7])).1⟩;have af:=ak.lt;simp only[Bc]at af ak av aw;have an:s.fn H ds={results:=[.lit (.bool true)],args:=ds}:=ai H ds hlen;refine⟨_,rfl,ds,[],p,[],p,[],ak,?_,?_,?_,?_,λ_=>⟨?_,?_⟩⟩;.rw[Bc,an,ag];exact ChangeShapes.trodAll_mk1 (RowKit.shut_bool hb _)
 .rw[Bc,an,al];exact zA2 hl ts _ _ _ (λt ht=>by simpa using ah t ht) hA (λx hx=>ab.same (af x hx)) (λx hx=>by simpa using af x hx)
 .rw[Bc,an,aa];rfl
 .exact ab.frame _
 .exact RowKit.ok_one ag rfl (RowKit.okWide_bool_mk hb _)
 .rw[al,ag];refine⟨[.lit (.bool true)]++ds,[],p,⟨[]++p,[],ChangeShapes.trodAll_append (zA2 (sp':=λ_=>true) hl ts _ _ _ (λt ht=>by simpa using ah t ht) hA (λx hx=>ab.same (af x hx)) (λx hx=>rfl)) ?_,by rw[aa];rfl,sm,?_,aw⟩,λx hx _=>hx⟩;.exact ChangeShapes.trodAll_mk1 (RowKit.shut_bool hb _)
  .intro b off hp;rw[ab.frozen (p:=⟨b,off,none⟩) (af _ hp)];exact av b off hp
theorem xx0{f:FuncId}{fn:Func}{s:ChangeSpec}{apart fresh handsOn again:Bool}(T ts:List TypeId)(tb:TypeId)(af:fn.params=ts.toArray)(ag:fn.resultTypes=#[tb])(hb:P.underlying tb=some .bool)(hT:okT P T=true)(ah:ts.all (T.contains ·)=true)(ai:ts.all (λt=>P.readableRec t&&decide (t<P.types.size))=true)(hl:laidOutB P=true)(aa:s.vars=[])(ab:∀(H:Type)(ds:List (DataW H)),ds.length=ts.length->s.fn H ds={results:=[.lit (.bool true)],args:=ds})(hw:∀xs,ShpA P ts xs->VCalls P f xs [] λr _=>r=.bool true)(H:Type)(enc:TypeId×Value->H)(W:World)(base:Nat)(args:Array Value)(ds gs:List (DataW H))(before:List MemPlace)(ae:∀(j:Nat) t v,fn.params[j]?=some t->args[j]?=some v->Value.okWide P W .any base t v)(hW:DataW.Whole enc P fn.params.toList s.vars apart W args.toList ds gs before)(ad:GlobOk W (lims W)):Calls P f args W λe W'=>∃v,e=.returned v/\s.post enc P fn apart fresh handsOn again W args v W':=xj2 T ts tb af ag hb hT ah ai hl aa ab (λ_=>True) (λxs h _=>hw xs h) H enc W base args ds gs before ae hW ad λ_ _=>trivial
variable {t:TypeId} {vs:List V}
theorem ShpA.cons_inv{ts:List TypeId}{xs:List V}(h:ShpA P (t::ts) xs):∃vs aa,xs=zN1 P t vs::aa/\Shp P t vs/\ShpA P ts aa:=by cases h with |cons h1 h2=>exact⟨_,_,rfl,h1,h2⟩
theorem ShpA.nil_inv{xs:List V}(h:ShpA P [] xs):xs=[]:=by cases h;rfl
theorem Shp.int_inv{k:IntKind}(hu:P.underlying t=some (.int k))(h:Shp P t vs):∃n,vs=[.int k n]/\(Lit.int k n).wf=true:=by cases h with |int h1 h2=>rw[hu]at h1;cases h1;exact⟨_,rfl,h2⟩|bool b h1=>rw[hu]at h1;cases h1|str h1 _=>rw[hu]at h1;cases h1|sl h1 _ _=>rw[hu]at h1;cases h1|struct h1 _=>rw[hu]at h1;cases h1
theorem Shp.sl_inv{e:TypeId}(hu:P.underlying t=some (.slice e))(h:Shp P t vs):∃rows,vs=[.sl .ro rows]/\rows.length<=maxLen/\ShpR P e rows:=by cases h with |int h1 h2=>rw[hu]at h1;cases h1|bool b h1=>rw[hu]at h1;cases h1|str h1 h2=>rw[hu]at h1;cases h1|sl h1 h2 h3=>rw[hu]at h1;cases h1;exact⟨_,rfl,h2,h3⟩|struct h1 _=>rw[hu]at h1;cases h1
theorem Shp.struct_inv{fs:Array Field}(hu:P.underlying t=some (.struct fs))(h:Shp P t vs):ShpF P (fs.toList.map (·.type)) vs:=by cases h with |int h1 h2=>rw[hu]at h1;cases h1|bool b h1=>rw[hu]at h1;cases h1|str h1 h2=>rw[hu]at h1;cases h1|sl h1 h2 h3=>rw[hu]at h1;cases h1|struct h1 h2=>rw[hu]at h1;cases h1;exact h2
theorem ShpF.cons_inv{ts:List TypeId}(h:ShpF P (t::ts) vs):∃a b,vs=a++b/\Shp P t a/\ShpF P ts b:=by cases h with |cons h1 h2=>exact⟨_,_,rfl,h1,h2⟩
theorem ShpF.nil_inv(h:ShpF P [] vs):vs=[]:=by cases h;rfl
theorem ShpR.map_inv{α:Type}{f:α->List V}{ok:α->Prop}(h:∀r,Shp P t r->∃x,r=f x/\ok x):∀{rows:List (List V)},ShpR P t rows->∃xs:List α,rows=xs.map f/\∀x∈xs,ok x
 |[],_=>⟨[],rfl,λ_ q=>by simp at q⟩|r::rows,hr=>by cases hr with |cons h1 h2=>obtain⟨x,rfl,hx⟩:=h r h1;obtain⟨xs,rfl,aa⟩:=ShpR.map_inv h h2;exact⟨x::xs,rfl,λy hy=>by(rcases Ag.1 hy with rfl|hy<;>first|exact hx|exact aa y hy)⟩
theorem ys9{v:V}(h:(match P.underlying t with|some (.struct _)=>false|_=>true)=true):zN1 P t [v]=v:=by
 unfold zN1;split;.rename_i hu;rw[hu]at h;cases h
 .rfl
theorem yD1{n:Int}(h:(Lit.int .i64 n).wf=true):-9223372036854775808<=n/\n<=9223372036854775807:=by simpa[Lit.wf,IntKind.min,IntKind.max,IntKind.signed,IntKind.bits]using h
end
variable{ρ:Nat->Nat}{σ:St}{f:FuncId}{P:Program}{c:Ctx}{caps:List V}{args':List V}{KV:V->St->Prop}
theorem xK3{j:Nat}(h:j<=9223372036854775807):IntKind.i64.wrap (j:Int)=j:=IntWalk.i64_in _ om
theorem i64_id{n:Int}(h:-9223372036854775808<=n)(h2:n<=9223372036854775807):IntKind.i64.wrap n=n:=IntWalk.i64_in _ om
theorem u64_id{n:Int}(h:0<=n)(h2:n<=18446744073709551615):IntKind.u64.wrap n=n:=by unfold IntKind.wrap;simp[IntKind.bits,IntKind.signed];omega
@[go_sem]theorem i64_lit(n:Nat)(h:n<=9223372036854775807):IntKind.i64.wrap (no_index(OfNat.ofNat n))=OfNat.ofNat n:=by rw[show(OfNat.ofNat n:Int)=((n:Nat):Int)from rfl];exact xK3 h
theorem zS{i n:Nat}(h:i<n)(hn:n<=9223372036854775807):IntKind.i64.wrap ((i:Int)+1)=((i+1:Nat):Int):=by rw[IntWalk.i64_in _ om];rfl
theorem yc8{α:Type}{f:α->List V}{s:Nat}{l:List α}(h:∀x,(f x).length=s):uni s (l.map f):=λr hr=>by obtain⟨x,_,rfl⟩:=Ac.1 hr;exact h x
theorem zV{s:Nat}{r:List V}(h:r.length=s):uni s [r]:=λx hx=>by simp at hx;subst hx;exact h
theorem xP(k:Nat){n0:Nat}{R:V->St->Prop}{s:St}{v r:V}(hs:σ.take k=s)(hl:s.length=k)(hok:s.all (ltOb k)=true)(hn:n0<=k)(hr:argS (ren (List.range k) σ.length) r v)(hR:R r s):wret (some v) n0 R σ:=by subst hs;exact zx4 k hl hok hn hr hR
def i64R(n:Int):Prop:=-9223372036854775808<=n/\n<=9223372036854775807
instance(n:Int):Decidable (i64R n):=inferInstanceAs(Decidable (_/\_))
@[go_sem]def yM(n:Int):List V:=[.int .i64 n]
theorem wF{vs' vs:List V}(h:All2 (argA ρ) vs' vs):argS ρ (.tup vs') (.tup vs):=.inr (.inr (.inr (.inr ⟨vs',vs,rfl,rfl,h⟩)))
theorem zt7{g:Tag}{rows:List (List V)}:argA ρ (.sl .ro rows) (.sl g rows):=.inr (.inl ⟨g,rows,rfl,rfl⟩)
theorem zb4{v:V}(h:noA v=true):argA ρ v v:=.inl (yB0 h).symm
theorem yY{g:Tag}{rows:List (List V)}:argC ρ (.sl .ro rows) (.sl g rows):=.inr ⟨g,rows,rfl,rfl⟩
theorem zU{v:V}(h:noC v=true):argC ρ v v:=.inl (zF3 h).symm
theorem zv4{aa cs:List V}(h:All2 (argC ρ) aa cs):argS ρ (.agg aa) (.agg cs):=.inr (.inr (.inr (.inl ⟨aa,cs,rfl,rfl,h⟩)))
theorem zd4{aa cs:List V}(h:All2 (argC ρ) aa cs):argA ρ (.agg aa) (.agg cs):=.inr (.inr ⟨aa,cs,rfl,rfl,h⟩)
theorem xP6{args:List V}{R:V->Prop}(hc:VCalls P f args' [] λr s=>R r/\s=[])(hb:wG P f=true)(aa:All2 (argS (ren [] σ.length)) args' (args++caps))(hn:∀r,R r->noS r=true)(hk:∀r,R r->KV r σ):wVC P c (.fn f caps) args σ KV fx:=by
 refine VC.of hc hb [] D0 rfl (λi j o h=>by simp at h) aa ?_;rintro r σ' ⟨hR,rfl⟩_;rw[zz1 (hn r hR)];have:xC [] σ []=σ:=by simp[xC,mset]
 rw[this];exact hk r hR
theorem zZ1{k:Nat}{s:St}(hk:k<=σ.length)(hs:s.length=k)(hok:s.all (ltOb k)=true):xC (List.range k) σ s=s++σ.drop k:=by
 have e1:(s.take (List.range k).length).map (yC (ren (List.range k) σ.length))=s:=by rw[Dv,Av om];exact wK (λo h=>wL (n:=k) (λi hi=>zf3 hi) h) hok
 have e2:(s.drop (List.range k).length).map (yC (ren (List.range k) σ.length))=[]:=by rw[Dv,Bu om];rfl
 unfold xC;rw[e1,e2,Bc];apply Bx;intro i;by_cases hi:i<k;.rw[yb9 (List.range k) σ s i i C5 (λq hq=>by have:=Cj.1 hq;omega) (by rw[Dv];omega) (by rw[Co hi]),Aa om]
 .rw[zj0 _ _ _ _ (λh=>hi (Cj.1 h)),Ai om,B5,hs];congr 1;omega
theorem zp1(k:Nat){args:List V}{σin:St}{R:V->St->Prop}(hc:VCalls P f args' σin R)(hb:wG P f=true)(hk:σ.take k=σin)(hl:σin.length=k)(hok:σin.all (ltOb k)=true)(aa:All2 (argS (ren (List.range k) σ.length)) args' (args++caps))(hR:∀r s,R r s->s.length=k/\s.all (ltOb k)=true/\ltS k r=true)(hK:∀r s,R r s->KV r (s++σ.drop k)):wVC P c (.fn f caps) args σ KV fx:=by
 have ab:k<=σ.length:=by rw[<-hl,<-hk];simp;exact Er _ _
 refine VC.of hc hb (List.range k) C5 (by simp[hl]) (λi j o h1 h2=>?_) aa λr s h _=>?_
 .obtain⟨h3,h4⟩:=A1.1 h1;simp at h3 h4;subst h4;have ho:ltOb k o=true:=by rw[Af]at hok;exact hok o (Ax.2 ⟨i,h2⟩)
  rw[wL (n:=k) (λi hi=>zf3 hi) ho];rw[<-hk,Ae,if_pos h3]at h2;exact h2
 .obtain⟨h1,h2,h3⟩:=hR r s h;rw[yB1 (n:=k) (λi hi=>zf3 hi) h3,zZ1 ab h1 h2];exact hK r s h
theorem zk6(i:Nat){o:Ob}{args:List V}{R:V->St->Prop}(hc:VCalls P f args' [o] R)(hb:wG P f=true)(ho:σ[i]?=some o)(hok:ltOb 0 o=true)(aa:All2 (argS (ren [i] σ.length)) args' (args++caps))(hR:∀r s,R r s->∃o2,s=[o2]/\ltOb 0 o2=true)(hK:∀r o2,R r [o2]->KV (renS (ren [i] σ.length) r) (σ.set i o2)):wVC P c (.fn f caps) args σ KV fx:=by
 refine xP5 hc hb ho hok aa λr s h _=>?_;obtain⟨o2,rfl,h2⟩:=hR r s h;have e:xC [i] σ [o2]=σ.set i o2:=by simp only[xC,Bh,C1,Ds,Dn,B8,Al,Bs,mset,Bc];rw[wL (n:=0) (λ_ h=>absurd h (Bg _)) h2]
 rw[e];exact hK r o2 h
theorem xN0{i N:Nat}:ren [i] N 0=i:=rfl
attribute[go_sem] renS renA renC renK xN0
section
variable{ρ:Nat->Nat}(hρ:∀i,ρ i=i)
include hρ
theorem xM9(v:V):renK ρ v=v:=by cases v with |sl g rows=>cases g<;>simp[renK,hρ]|_=>simp[renK,hρ]
theorem xe2(v:V):renC ρ v=v:=by have h:renK ρ=λv=>v:=funext λv=>xM9 hρ v;cases v with |fn f caps=>simp only[renC,h,Dy]|ifc t v=>simp only[renC,h,Dy]|_=>simp only[renC,h]
theorem xe1(v:V):renA ρ v=v:=by have h:renC ρ=λv=>v:=funext λv=>xe2 hρ v;cases v with |agg cs=>simp only[renA,h,Dy]|_=>simp only[renA,h]
theorem zz0(v:V):renS ρ v=v:=by have h:renA ρ=λv=>v:=funext λv=>xe1 hρ v;cases v with |tup vs=>simp only[renS,h,Dy]|_=>simp only[renS,h]
theorem zr9(o:Ob):yC ρ o=o:=by have h:renC ρ=λv=>v:=funext λv=>xe2 hρ v;cases o with |box cells=>simp only[yC,h,Dy]|lst rows s=>simp only[yC,h,Dy]|mp kvs borns clk=>have h:renA ρ=λv=>v:=funext λv=>xe1 hρ v;simp only[yC,h,Dy]|it m since seen last=>cases m<;>simp[yC,hρ]|_=>rfl
end
variable{σ:St}{P:Program}{c:Ctx}{nt:Nat}{Q:QT}{e:Env}{y:Code}
theorem zT6{f:FuncId}{caps args args':List V}{KV:V->St->Prop}{R:V->St->Prop}(hc:VCalls P f args' [] R)(hb:wG P f=true)(aa:All2 (argS (ren [] 0)) args' (args++caps))(hK:∀r s,R r s->KV r s):wVC P c (.fn f caps) args [] KV fx:=by
 have hid:∀i,ren [] 0 i=i:=λi=>by simp[ren]
 refine VC.of hc hb [] D0 rfl (λi j o h=>by simp at h) aa λr s h _=>?_;have e:xC [] [] s=s:=by have h2:yC (ren [] 0)=λo=>o:=funext λo=>zr9 hid o;simp[xC,mset,h2]
 show KV (renS (ren [] 0) r) (xC [] [] s);rw[e,zz0 hid];exact hK r s h
theorem yR{id:Nat}{ops:List Oper}(q:List (Nat×Nat))(n0:Nat)(hn:n0<=σ.length)(hm:P.follows .mixedOrders=true)(hd:(zz8 ops q&&zd2 ops)=true)(h:wtr P c nt (Kp.pre n0) ops q 0 ops (Q .normal) fx fx fx e σ):wVW P c nt (.region id ops.toArray true) Q fx fx e σ:=by simp only[A6]at hd;obtain⟨tr,ht,hK⟩:=zq1 ops 0 (Q .normal) e σ h;exact VW.draw (n0:=Kp.pre n0) hm hn hd.1 hd.2 ht hK
theorem zb0{id:Nat}{ops:List Oper}(q:List (Nat×Nat))(x n0:Nat)(hn:n0<=σ.length)(hm:P.follows .mixedOrders=true)(hd:(zz8 ops q&&zd2 ops)=true)(h:wtr P c nt (Kp.mk x n0 [] none) ops q 0 ops (Q .normal) fx fx fx e σ):wVW P c nt (.region id ops.toArray true) Q fx fx e σ:=by simp only[A6]at hd;obtain⟨tr,ht,hK⟩:=zq1 ops 0 (Q .normal) e σ h;exact VW.draw (n0:=Kp.mk x n0 [] none) hm hn hd.1 hd.2 ht hK
theorem zk1(t s:Nat)(h0:0<s)(ht:e t=.sl .full [])(hy:wVW P c nt y Q fx fx (upd e t (.sl (.app σ.length) [])) (σ++[.app 0 s])):wVW P c nt y Q fx fx e σ:=by
 intro a w L β hs;have hr:=hs.env t;rw[ht]at hr;obtain⟨ad,hx⟩:∃ad,a.tmps.getD t undef=.slice ad 0 0:=by have hr:RdP w L (.sl .full []) (a.tmps.getD t undef):=hr;generalize a.tmps.getD t undef=x at hr;cases hr with |sl0 g ad cap hg ha=>have:=hg rfl;subst this;exact⟨ad,rfl⟩|sl g rows s b o cap c ha hs hlen hlim hcap hg hc hr=>have:=hg rfl;subst this;exact⟨_,rfl⟩
 have aa:=Ext.push σ β hs.mem.len (.app 0 s) (.slice ad 0 0);refine hy a w L (β++[.slice ad 0 0]) ⟨hs.mem.own h0,hs.size,hs.defs,λk=>?_⟩;simp only[upd];split;.rename_i hk;subst hk;rw[hx];exact⟨.sl0 .ro ad 0 (λh=>by cases h) (λ_ h=>by cases h),0,s,sm,A2 _,λ_=>by rw[<-hs.mem.len];simp,λr h=>by simp at h⟩
 .exact(hs.env k).mono (Le.refl _ _) aa
theorem zJ9(id off s:Nat)(cells:List V)(h0:0<s)(hσ:σ[id]?=some (.box cells))(hc:cells[off]?=some (.sl .full []))(hy:wVW P c nt y Q fx fx e (σ.set id (.box (cells.set off (.sl (.app σ.length) [])))++[.app 0 s])):wVW P c nt y Q fx fx e σ:=by intro a w L β hs;obtain⟨x,h1,h2⟩:=xH5 hs.mem h0 hσ hc;exact hy a w L (β++[x]) ⟨h1,hs.size,hs.defs,λk=>(hs.env k).mono (Le.refl _ _) h2⟩
theorem zM1(t s:Nat)(h0:0<s)(ht:e t=.sl .full [])(hy:wVW P c nt y Q fx fx (upd e t (.lsv σ.length s 0 0 0)) (σ++[.lst [] s])):wVW P c nt y Q fx fx e σ:=by
 intro a w L β hs;have hr:=hs.env t;rw[ht]at hr;obtain⟨ad,hx⟩:∃ad,a.tmps.getD t undef=.slice ad 0 0:=by have hr:RdP w L (.sl .full []) (a.tmps.getD t undef):=hr;generalize a.tmps.getD t undef=x at hr;cases hr with |sl0 g ad cap hg ha=>have:=hg rfl;subst this;exact⟨ad,rfl⟩|sl g rows s b o cap c ha hs hlen hlim hcap hg hc hr=>have:=hg rfl;subst this;exact⟨_,rfl⟩
 have aa:=Ext.push σ β hs.mem.len (.lst [] s) (.slice ad 0 0);refine hy a w L (β++[.slice ad 0 0]) ⟨hs.mem.lstNil h0,hs.size,hs.defs,λk=>?_⟩;simp only[upd];split;.rename_i hk;subst hk;rw[hx];exact zR5 (w':=w) (L':=L) (s:=s) (rows:=[]) (cap:=0) (a0:=ad) hs.mem.len (A3 _) (λh=>absurd h om)
 .exact(hs.env k).mono (Le.refl _ _) aa
theorem yK3{s:St}(h:σ.length<=s.length):xC (List.range σ.length) σ s=s:=by
 have ra:∀i,ren (List.range σ.length) σ.length i=i:=λi=>by
  by_cases h:i<σ.length;.exact zf3 h
  .rw[zs9 (by simp;omega)];simp;omega
 have hid:yC (ren (List.range σ.length) σ.length)=λo=>o:=funext λo=>zr9 ra o;apply Bx;intro i;by_cases hi:i<s.length;.have:=zv1 (sel:=List.range σ.length) (σc:=σ) (σ':=s) C5 (λq hq=>Cj.1 hq) (by simpa using h) (A0 hi);rw[ra,hid]at this;rw[this,A0 hi]
 .have hl:(xC (List.range σ.length) σ s).length=s.length:=by rw[zu5];simp;omega
  rw[Bd om,Bd om]
theorem zC7{f:FuncId}{caps args:List V}{KV:V->St->Prop}{R:V->St->Prop}(hc:VCalls P f (args++caps) σ R)(hb:wG P f=true)(hk:∀r s,R r s->σ.length<=s.length->KV r s):wVC P c (.fn f caps) args σ KV fx:=by
 have ra:∀i,ren (List.range σ.length) σ.length i=i:=λi=>by
  by_cases h:i<σ.length;.exact zf3 h
  .rw[zs9 (by simp;omega)];simp;omega
 refine VC.of hc hb (List.range σ.length) C5 sm (λi j o hi ho=>?_) ?_ ?_;.obtain⟨h3,h4⟩:=A1.1 hi;simp at h3 h4;subst h4;rw[zr9 ra];exact ho
 .have:∀l:List V,All2 (argS (ren (List.range σ.length) σ.length)) l l:=by intro l;induction l with |nil=>trivial|cons a l ih=>exact⟨.inl (zz0 ra a).symm,ih⟩
  exact this _
 .intro r s hr hl;rw[zz0 ra,yK3 (by simpa using hl)];exact hk r s hr (by simpa using hl)
theorem yl2{n0:Nat}{R:V->St->Prop}{r:V}(hn:n0<=σ.length)(hR:R r σ):wret (some r) n0 R σ:=by
 have ra:∀i,ren (List.range σ.length) σ.length i=i:=λi=>by
  by_cases h:i<σ.length;.exact zf3 h
  .rw[zs9 (by simp;omega)];simp;omega
 refine⟨r,rfl,r,σ,List.range σ.length,σ,r,.refl _ _,⟨sm,C5,λi j o hi ho=>?_,λi hi=>by rw[Co om]⟩,.inl (zz0 ra r).symm,hR⟩;obtain⟨h1,h2⟩:=A1.1 hi;simp at h1 h2;subst h2;rw[zr9 ra];exact ho
end Go.Vx
