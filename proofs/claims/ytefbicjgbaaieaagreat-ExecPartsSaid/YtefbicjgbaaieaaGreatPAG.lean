/-
  Small helps for walks: numbers that do not wrap, rows at an index, arguments and results piece by piece.
  No condition: a library text; nothing of the program is named.
-/
import Derived.Test.YtefbicjgbaaieaaGreatPAF
import Derived.Carry
import Derived.ProofKit
import Derived.OpenShut
import Derived.IntWalk
set_option maxHeartbeats 8000000
namespace Go.Vx
open Go
def isSt:R->Bool
 | .st .. | .needst .. =>true
 |_=>false
def zW8:R->Bool
 | .all _| .any _=>true
 |_=>false
def stOk (n0:Kp) (k:Nat) (σ:St):R->Prop
 | .st _ σ'| .needst _ _ σ'=>σ.length<=σ'.length/\(k=3->KeepN n0 σ σ')
 |_=>True
def vtop (P:Program) (c:Ctx) (nt:Nat) (n0:Kp) (k:Nat) (d:Option Tmp) (op:Op) (K:KT) (e:Env) (σ:St):Prop:=
 match op with
 | .call ⟨.value f,args,_⟩=> ∃v σ',(if k=0 then∀s,VC P c (zD e f) (args.toList.map (zD e)) s (fun r s'=>r=v/\s'=s)else if k=1 then∀s,n0.of s=n0.of σ->VC P c (zD e f) (args.toList.map (zD e)) s (fun r s'=>r=v/\s'=s)else VC P c (zD e f) (args.toList.map (zD e)) σ (fun r s=>r=v/\s=σ'))/\
   (k<3->σ'=σ)/\(k=3->KeepN n0 σ σ')/\σ.length<=σ'.length/\vput nt d v K e σ'
 |op=>(k<3->hok P d e op)/\zW8 (xH P d e σ op)=false/\(k=0->zd7 op=0)/\(k=1->(∃t x,op= .load t x/\imm n0 (zD e x)=true)∨(∀t x,op≠ .load t x)/\ ∀s,n0.of s=n0.of σ->evOp P e s op=evOp P e σ op)/\(isSt (xH P d e σ op)=true->3<=k)/\stOk n0 k σ (xH P d e σ op)/\vfin nt d (xH P d e σ op) K e σ
def vtr (P:Program) (c:Ctx) (nt:Nat) (n0:Kp) (ops:List Oper) (q:List (Nat×Nat)):Nat->List Oper->KT->Env->St->Prop
 |_,[],K,e,σ=>K e σ
 |i,o::os,K,e,σ=>vgd o.guard ops e (vtop P c nt n0 (zT q i o) o.dst o.op (vtr P c nt n0 ops q (i+1) os K) e σ) (vput nt o.dst (.tup []) (vtr P c nt n0 ops q (i+1) os K) e σ)
section
variable {P:Program} {c:Ctx} {nt:Nat} {n0:Kp}
variable {x:Operand}{t:TypeId}{op:Op}{ops:List Oper}{i:Nat}{y:Operand}{f:FuncId}{caps:List V}{args':List V}{KV:V->St->Prop}{q:List (Nat×Nat)}{n:Nat}{ts:Array TypeId}{s1:St}
theorem yh7 {d:Option Tmp} {v:V} {K:KT} {e:Env} {σ:St} (h:vput nt d v K e σ):(∀t,d=some t->t<nt)/\K (updO e d v) σ:=by
 cases d with
 |none=>exact⟨fun t q=>(by cases q),h⟩
 |some t=>exact⟨fun t' q=>by cases q;exact h.1,h.2⟩
theorem zp5 {ops:List Oper} {q:List (Nat×Nat)}: ∀(os:List Oper) (i:Nat) (K:KT) (e:Env) (σ:St),vtr P c nt n0 ops q i os K e σ->
  ∃tr,zu6 P c nt n0 ops q i os e σ tr/\K (fE (fun _=>true) i os tr e) (fS (fun _=>true) q i os tr σ)
 | [],i,K,e,σ,h=>⟨[],tV,h⟩
 |o::os,i,K,e,σ,h=>by
  have go: ∀(v:V) (σ':St),Fact P c nt n0 ops q i o e σ v σ'->vtr P c nt n0 ops q (i+1) os K (updO e o.dst v) σ'-> ∃tr,zu6 P c nt n0 ops q i (o::os) e σ tr/\K (fE (fun _=>true) i (o::os) tr e) (fS (fun _=>true) q i (o::os) tr σ):=by
   intro v σ' hf hk
   obtain⟨tr,ht,hK⟩:=zp5 os (i+1) K _ _ hk
   refine⟨(v,σ')::tr,⟨hf,ht⟩, ?_⟩
   rw[fE,fS,if_pos rfl]
   have:(if((fun _=>true) i&&decide (3<=zT q i o))=true then σ' else σ)=σ':=by
    by_cases h2:3<=zT q i o
    .rw[if_pos (by simp[h2])]
    .rw[if_neg (by simp[h2])];exact(hf.2.1 om).symm
   rw[this]
   exact hK
  have yes:(match o.guard with|none=>True|some (j,want)=> ∃t b,gdst ops j=some t/\e t= .bool b/\b=want)->vtop P c nt n0 (zT q i o) o.dst o.op (vtr P c nt n0 ops q (i+1) os K) e σ->
    ∃tr,zu6 P c nt n0 ops q i (o::os) e σ tr/\K (fE (fun _=>true) i (o::os) tr e) (fS (fun _=>true) q i (o::os) tr σ):=by
   intro hg hv
   have ah: ∃g:Bool,(match o.guard with|none=>g=true|some (j,want)=> ∃t,gdst ops j=some t/\((∃b,e t= .bool b/\g=(b==want))∨(e t= .tup []/\g=false)))/\g=true:=by
    refine⟨true, ?_,rfl⟩
    split
    .rfl
    .rename_i j want ai
     rw[ai]at hg
     obtain⟨t,b,h1,h2,h3⟩:=hg
     exact⟨t,h1,.inl ⟨b,h2,by simp[h3]⟩⟩
   obtain⟨g,af,rfl⟩:=ah
   unfold vtop at hv
   split at hv
   .rename_i f args ts ae
    obtain⟨v,σ',aj,ak,h3,hlen,hp⟩:=hv
    obtain⟨hd,hk⟩:=yh7 hp
    refine go v σ' ⟨hd,ak,h3,hlen,true,af, ?_⟩ hk
    rw[if_pos rfl,ae]
    exact aj
   .rename_i al
    obtain⟨an,ab,hz,ao,ag,aa,hv⟩:=hv
    have done: ∀v σ',(zT q i o<3->σ'=σ)->(zT q i o=3->KeepN n0 σ σ')->σ.length<=σ'.length->
      ((xH P o.dst e σ o.op= .ok v/\σ'=σ)∨(∃p,xH P o.dst e σ o.op= .need p v/\p/\σ'=σ)∨(3<=zT q i o/\(xH P o.dst e σ o.op= .st v σ'∨ ∃p,xH P o.dst e σ o.op= .needst p v σ'/\p)))->
      vput nt o.dst v (vtr P c nt n0 ops q (i+1) os K) e σ'-> ∃tr,zu6 P c nt n0 ops q i (o::os) e σ tr/\K (fE (fun _=>true) i (o::os) tr e) (fS (fun _=>true) q i (o::os) tr σ):=by
     intro v σ' h2 h3 hlen hf hp
     obtain⟨hd,hk⟩:=yh7 hp
     refine go v σ' ⟨hd,h2,h3,hlen,true,af, ?_⟩ hk
     rw[if_pos rfl]
     split
     .rename_i f args ts ae;exact absurd ae (al f args ts)
     .exact⟨an,hz,ao,hf⟩
    cases hr:xH P o.dst e σ o.op with
    |all f=>rw[hr]at ab;cases ab
    |any l=>rw[hr]at ab;cases ab
    |fail=>rw[hr]at hv;exact hv.elim
    |ok v=>rw[hr]at hv;exact done v σ (fun _=>rfl) (fun _=>KeepN.refl) (A6 _) (.inl ⟨hr,rfl⟩) hv
    |need p v=>rw[hr]at hv;exact done v σ (fun _=>rfl) (fun _=>KeepN.refl) (A6 _) (.inr (.inl ⟨p,hr,hv.1,rfl⟩)) hv.2
    |st v σ'=>
     rw[hr]at hv aa
     have h3:=ag (by rw[hr];rfl)
     exact done v σ' (fun h=>om) aa.2 aa.1 (.inr (.inr ⟨h3,.inl hr⟩)) hv
    |needst p v σ'=>
     rw[hr]at hv aa
     have h3:=ag (by rw[hr];rfl)
     exact done v σ' (fun h=>om) aa.2 aa.1 (.inr (.inr ⟨h3,.inr ⟨p,hr,hv.1⟩⟩)) hv.2
  have no:(∃j want t,o.guard=some (j,want)/\gdst ops j=some t/\((∃b,e t= .bool b/\b≠want)∨e t= .tup []))->vput nt o.dst (.tup []) (vtr P c nt n0 ops q (i+1) os K) e σ->
    ∃tr,zu6 P c nt n0 ops q i (o::os) e σ tr/\K (fE (fun _=>true) i (o::os) tr e) (fS (fun _=>true) q i (o::os) tr σ):=by
   rintro⟨j,want,t,hg,h1,h2⟩ hv
   obtain⟨hd,hk⟩:=yh7 hv
   refine go (.tup []) σ ⟨hd,fun _=>rfl,fun _=>KeepN.refl,A6 _,false, ?_, ?_⟩ hk
   .rw[hg]
    rcases h2 with ⟨b,h2,h3⟩|h2
    .exact⟨t,h1,.inl ⟨b,h2,by simp[h3]⟩⟩
    .exact⟨t,h1,.inr ⟨h2,rfl⟩⟩
   .rw[if_neg sm];exact⟨rfl,rfl⟩
  unfold vtr vgd at h
  split at h
  .rename_i hg;exact yes (by rw[hg];trivial) h
  .rename_i j want hg
   split at h
   .rename_i t ht
    unfold vgrd at h
    split at h
    .rename_i b hb
     by_cases ad:b=want
     .exact yes (by rw[hg];exact⟨t,b,ht,hb,ad⟩) (h.1 ad)
     .exact no ⟨j,want,t,hg,ht,.inl ⟨b,hb,ad⟩⟩ (h.2 ad)
    .rename_i hb
     exact no ⟨j,want,t,hg,ht,.inr hb⟩ h
    .exact h.elim
   .exact h.elim
def wtr (P:Program) (c:Ctx) (nt:Nat) (n0:Kp) (ops:List Oper) (q:List (Nat×Nat)) (i:Nat) (l:List Oper) (K:KT) (_:Fx ops) (_:Fx l) (_:Fx K) (e:Env) (σ:St):Prop:=vtr P c nt n0 ops q i l K e σ
def wtop (P:Program) (c:Ctx) (nt:Nat) (n0:Kp) (k:Nat) (d:Option Tmp) (op:Op) (K:KT) (_:Fx op) (_:Fx K) (e:Env) (σ:St):Prop:=vtop P c nt n0 k d op K e σ
def wVD (P:Program) (c:Ctx) (n0:Kp) (k:Nat) (fv:V) (az:List V) (σ:St) (K:V->St->Prop) (_:Fx K):Prop:=
 ∃v σ',(if k=0 then∀s,VC P c fv az s (fun r s'=>r=v/\s'=s)else if k=1 then∀s,n0.of s=n0.of σ->VC P c fv az s (fun r s'=>r=v/\s'=s)else VC P c fv az σ (fun r s=>r=v/\s=σ'))/\(k<3->σ'=σ)/\(k=3->KeepN n0 σ σ')/\σ.length<=σ'.length/\K v σ'
theorem yV {id:Nat} {Q:QT} {e:Env} {σ:St} (q:List (Nat×Nat)) (n0:Nat) (hn:σ.length=n0) (hm:P.follows .mixedOrders=true) (hd:(zz5 ops q&&zc7 ops)=true) (h:wtr P c nt (Kp.pre n0) ops q 0 ops (Q .normal) fx fx fx e σ):wVW P c nt (.region id ops.toArray true) Q fx fx e σ:=by
 simp only[A8]at hd
 obtain⟨tr,ht,hK⟩:=zp5 ops 0 (Q .normal) e σ h
 exact VW.draw (n0:=Kp.pre n0) hm (Cn hn.symm) hd.1 hd.2 ht hK
def xt9 (q:List (Nat×Nat)) (i:Nat) (op:Op):Nat:=match q.find? (·.1==i)with|some p=>min p.2 4|none=>zd7 op
variable {e:Env} {σ:St} {K:KT} {Q:QT} {d:Option Tmp} {k:Nat}
@[go_sem] theorem wtr_nil:wtr P c nt n0 ops q i [] K fx fx fx e σ=K e σ:=id rfl
@[go_sem] theorem wtr_cons {rest:List Oper} {ty:TypeId} {pos:String} {aft:Array Edge}:wtr P c nt n0 ops q i (⟨d,op,ty,pos,aft,none⟩::rest) K fx fx fx e σ=
  wtop P c nt n0 (xt9 q i op) d op (wtr P c nt n0 ops q (i+1) rest K fx fx fx) fx fx e σ:=id rfl
@[go_sem] theorem wtr_guard {rest:List Oper} {ty:TypeId} {pos:String} {aft:Array Edge} {j:Nat} {want:Bool}:wtr P c nt n0 ops q i (⟨d,op,ty,pos,aft,some (j,want)⟩::rest) K fx fx fx e σ=
  wgdo (wdst ops fx j) want e (wtop P c nt n0 (xt9 q i op) d op (wtr P c nt n0 ops q (i+1) rest K fx fx fx) fx fx e σ) (wput nt d (.tup []) (wtr P c nt n0 ops q (i+1) rest K fx fx fx) fx e σ) fx fx:=id rfl
attribute [go_sem] xt9 imm
theorem zu3 (op:Op) (h:zd7 op<3):isSt (evOp P e σ op)=false:=by
 cases op with
 |call cl=>
  obtain⟨aa,⟨args⟩,ts⟩:=cl
  cases aa with
  |builtin b=>
   cases b
   case len=>simp only[evOp];split<;>first|rfl|(rename_i heq;simp at heq;done)|(unfold zW4;(repeat' split)<;>rfl)
   case min=>simp only[evOp];unfold zA3;(repeat' split)<;>rfl
   case max=>simp only[evOp];unfold zA3;(repeat' split)<;>rfl
   all_goals first|(simp[zd7]at h;done)|rfl
  |_=>rfl
 |slice t x lo hi mx=>cases lo<;>cases hi<;>cases mx<;>simp only[evOp]<;>first|rfl|(unfold zn3;(repeat' split)<;>rfl)|(unfold zq8;(repeat' split)<;>rfl)
 |move x=>rfl
 |assign x=>rfl
 |pick x y z=>simp only[evOp];unfold zG4;(repeat' split)<;>rfl
 |build t ps=>simp only[evOp];unfold zx4;(repeat' split)<;>rfl
 |buildSlice t n ps=>simp only[evOp];unfold zb4;(repeat' split)<;>rfl
 |nilCheck x=>simp only[evOp];unfold zW5;(repeat' split)<;>rfl
 |binOp o t x y t'=>simp only[evOp];unfold zt8 yH3 zq7 zs8 zM5 zN5;(repeat' split)<;>rfl
 |unOp o t x=>simp only[evOp];unfold evUn;(repeat' split)<;>rfl
 |convert t t' x=>simp only[evOp];unfold zC6;(repeat' split)<;>rfl
 |fieldAddr t x f=>simp only[evOp];unfold ze7;(repeat' split)<;>rfl
 |field t x f=>simp only[evOp];unfold zx6;(repeat' split)<;>rfl
 |indexAddr t x i=>simp only[evOp];unfold zi5;(repeat' split)<;>rfl
 |index t x i=>simp only[evOp];unfold zO7;(repeat' split)<;>rfl
 |extract x i=>simp only[evOp];unfold zm4;(repeat' split)<;>rfl
 |makeFunc fn l m=>simp only[evOp];unfold zG3;(repeat' split)<;>rfl
 |load t x=>simp only[evOp];unfold zh3;(repeat' split)<;>first|rfl|(unfold zl4;(repeat' split)<;>rfl)
 |_=>first|(simp[zd7]at h;done)|rfl
theorem zf2 (op:Op) (h: ∀o t x y t',op≠ .binOp o t x y t'):zW8 (evOp P e σ op)=false:=by
 cases op with
 |call cl=>
  obtain⟨aa,⟨args⟩,ts⟩:=cl
  cases aa with
  |builtin b=>
   cases b
   case len=>simp only[evOp];split<;>first|rfl|(rename_i heq;simp at heq;done)|(unfold zW4;(repeat' split)<;>rfl)
   case append=>simp only[evOp];split<;>first|rfl|(rename_i heq;simp at heq;done)|(unfold zh2;(repeat' split)<;>rfl)
   case clear=>simp only[evOp];split<;>first|rfl|(rename_i heq;simp at heq;done)|(unfold zt6;(repeat' split)<;>rfl)
   case delete=>simp only[evOp];split<;>first|rfl|(rename_i heq;simp at heq;done)|(unfold zq6;(repeat' split)<;>rfl)
   case min=>simp only[evOp];unfold zA3;(repeat' split)<;>rfl
   case max=>simp only[evOp];unfold zA3;(repeat' split)<;>rfl
   all_goals rfl
  |_=>rfl
 |slice t x lo hi mx=>cases lo<;>cases hi<;>cases mx<;>simp only[evOp]<;>first|rfl|(unfold zn3;(repeat' split)<;>rfl)|(unfold zq8;(repeat' split)<;>rfl)
 |pick x y z=>simp only[evOp];unfold zG4;(repeat' split)<;>rfl
 |alloc t=>simp only[evOp];unfold zl3;(repeat' split)<;>rfl
 |box t x=>simp only[evOp];unfold zO6;(repeat' split)<;>rfl
 |store t x y=>simp only[evOp];unfold zt9;(repeat' split)<;>rfl
 |makeSlice t l m=>simp only[evOp];unfold zC8;(repeat' split)<;>rfl
 |build t ps=>simp only[evOp];unfold zx4;(repeat' split)<;>rfl
 |buildSlice t n ps=>simp only[evOp];unfold zb4;(repeat' split)<;>rfl
 |nilCheck x=>simp only[evOp];unfold zW5;(repeat' split)<;>rfl
 |binOp o t x y t'=>exact absurd rfl (h o t x y t')
 |unOp o t x=>simp only[evOp];unfold evUn;(repeat' split)<;>rfl
 |convert t t' x=>simp only[evOp];unfold zC6;(repeat' split)<;>rfl
 |fieldAddr t x f=>simp only[evOp];unfold ze7;(repeat' split)<;>rfl
 |field t x f=>simp only[evOp];unfold zx6;(repeat' split)<;>rfl
 |indexAddr t x i=>simp only[evOp];unfold zi5;(repeat' split)<;>rfl
 |index t x i=>simp only[evOp];unfold zO7;(repeat' split)<;>rfl
 |extract x i=>simp only[evOp];unfold zm4;(repeat' split)<;>rfl
 |makeFunc fn l m=>simp only[evOp];unfold zG3;(repeat' split)<;>rfl
 |load t x=>simp only[evOp];unfold zh3;(repeat' split)<;>first|rfl|(unfold zl4;(repeat' split)<;>rfl)
 |makeMap t r=>simp only[evOp];unfold zm5;(repeat' split)<;>rfl
 |lookup t x k ok=>simp only[evOp];unfold xL;(repeat' split)<;>rfl
 |mapUpdate t x k v=>simp only[evOp];unfold xG;(repeat' split)<;>rfl
 |insert t x k v=>simp only[evOp];unfold xG;(repeat' split)<;>rfl
 |range t x=>simp only[evOp];unfold zx7;(repeat' split)<;>rfl
 |entry x=>simp only[evOp];unfold zi4;(repeat' split)<;>rfl
 |makeInterface t x=>simp only[evOp];unfold zW3;(repeat' split)<;>rfl
 |mapEntry t x k=>simp only[evOp];unfold xP;(repeat' split)<;>rfl
 |entryStore t x k v=>simp only[evOp];unfold xE;(repeat' split)<;>rfl
 |next x b=>cases b<;>simp only[evOp]<;>first|rfl|(unfold zh4;(repeat' split)<;>first|rfl|contradiction)
 |_=>rfl
theorem zr4 {r:R} (h:isSt r=false):stOk n0 k σ r:=by
 cases r<;>first|trivial|cases h
theorem zi3 (hA: ∀o t x y t',op≠ .binOp o t x y t') (hL: ∀e σ,za1 P e σ op=evOp P e σ op) (h:zd7 op=0) (hc: ∀f az ts,op≠ .call ⟨.value f,az,ts⟩):wtop P c nt n0 0 d op K fx fx e σ=wop P c nt d op K fx fx e σ:=by
 show vtop P c nt n0 0 d op K e σ=vop P c nt d op K e σ
 have hh:hok P d e op:= .inr hL
 unfold vtop vop
 split
 .exact absurd rfl (hc _ _ _)
 .have:=zu3 (P:=P) (e:=e) (σ:=σ) op om
  split
  .exact absurd rfl (hc _ _ _)
  .have h2:stOk n0 0 σ (evOp P e σ op):=zr4 this
   rw[zo9 hh]
   simp[this,h,h2,hh,zf2 op hA]
theorem zV0 (hA: ∀o t x y t',op≠ .binOp o t x y t') (h:zd7 op=0) (hc: ∀f az ts,op≠ .call ⟨.value f,az,ts⟩):wtop P c nt n0 0 d op K fx fx e σ=zI6 (hok P d e op) (wop P c nt d op K fx fx e σ) fx:=by
 show vtop P c nt n0 0 d op K e σ=(hok P d e op/\vop P c nt d op K e σ)
 by_cases hh:hok P d e op
 .unfold vtop vop
  split
  .exact absurd rfl (hc _ _ _)
  .have:=zu3 (P:=P) (e:=e) (σ:=σ) op om
   split
   .exact absurd rfl (hc _ _ _)
   .have h3:stOk n0 0 σ (evOp P e σ op):=zr4 this
    rw[zo9 hh]
    simp[this,h,h3,hh,zf2 op hA]
 .unfold vtop
  split
  .exact absurd rfl (hc _ _ _)
  .simp[hh]
@[go_sem] theorem hok_t (h:zd5 e d=false):hok P d e op=True:=by simp[hok,h]
theorem zP2:hok P d e (.load t x):= .inr fun _ _=>rfl
theorem yU2:wtop P c nt n0 1 d (.load t x) K fx fx e σ=zI6 (imm n0 (zD e x)=true) (wop P c nt d (.load t x) K fx fx e σ) fx:=by
 show vtop P c nt n0 1 d (.load t x) K e σ=(_/\vop P c nt d (.load t x) K e σ)
 have:=zu3 (P:=P) (e:=e) (σ:=σ) (.load t x) (show 1<3 by omega)
 have h2:stOk n0 1 σ (evOp P e σ (.load t x)):=zr4 this
 have hA:=zf2 (P:=P) (e:=e) (σ:=σ) (.load t x) (fun _ _ _ _ _ h=>by cases h)
 simp only[vtop,vop,this,h2,zo9 zP2,hA]
 refine propext ⟨fun h=> ?_,fun h=> ?_⟩
 .obtain⟨_,_,_,h1,_,_,h3⟩:=h
  rcases h1 trivial with ⟨t',x',aa,ab⟩|⟨ad,_⟩
  .cases aa
   exact⟨ab,h3⟩
  .exact absurd rfl (ad t x)
 .exact⟨fun _=>zP2,tV,fun q=>by simp at q,fun _=> .inl ⟨t,x,rfl,h.1⟩,fun q=>by simp at q,tV,h.2⟩
theorem yU3:wtop P c nt n0 2 d (.load t x) K fx fx e σ=wop P c nt d (.load t x) K fx fx e σ:=by
 show vtop P c nt n0 2 d (.load t x) K e σ=vop P c nt d (.load t x) K e σ
 have:=zu3 (P:=P) (e:=e) (σ:=σ) (.load t x) (show 1<3 by omega)
 have h2:stOk n0 2 σ (evOp P e σ (.load t x)):=zr4 this
 have hA:=zf2 (P:=P) (e:=e) (σ:=σ) (.load t x) (fun _ _ _ _ _ h=>by cases h)
 simp[vtop,vop,this,h2,zo9 zP2,zP2,hA]
theorem zU6:stOk n0 4 σ (evOp P e σ op):=by
 by_cases h:zd7 op<3
 .exact zr4 (zu3 op h)
 .cases op with
  |alloc t=>simp only[evOp];unfold zl3;(repeat' split)<;>first|trivial|exact⟨sm,fun h=>om⟩
  |box t x=>simp only[evOp];unfold zO6;(repeat' split)<;>first|trivial|exact⟨sm,fun h=>om⟩
  |store t x y=>simp only[evOp];unfold zt9;(repeat' split)<;>first|trivial|exact⟨sm,fun h=>om⟩
  |makeSlice t l m=>simp only[evOp];unfold zC8;(repeat' split)<;>first|trivial|exact⟨sm,fun h=>om⟩
  |makeMap t r=>simp only[evOp];unfold zm5;(repeat' split)<;>first|trivial|exact⟨sm,fun h=>om⟩
  |lookup t x k ok=>simp only[evOp];unfold xL;(repeat' split)<;>trivial
  |mapUpdate t x k v=>simp only[evOp];unfold xG;(repeat' split)<;>first|trivial|exact⟨sm,fun h=>om⟩
  |insert t x k v=>simp only[evOp];unfold xG;(repeat' split)<;>first|trivial|exact⟨sm,fun h=>om⟩
  |range t x=>simp only[evOp];unfold zx7;(repeat' split)<;>first|trivial|exact⟨sm,fun h=>om⟩
  |entry x=>simp only[evOp];unfold zi4;(repeat' split)<;>trivial
  |makeInterface t x=>simp only[evOp];unfold zW3;(repeat' split)<;>trivial
  |mapEntry t x k=>simp only[evOp];unfold xP;(repeat' split)<;>first|trivial|exact⟨sm,fun h=>om⟩
  |entryStore t x s v=>simp only[evOp];unfold xE;(repeat' split)<;>first|trivial|exact⟨sm,fun h=>om⟩
  |next x b=>cases b<;>simp only[evOp]<;>first|trivial|(unfold zh4;(repeat' split)<;>first|trivial|exact⟨sm,fun h=>om⟩)
  |call cl=>
   obtain⟨aa,⟨args⟩,ts⟩:=cl
   cases aa with
   |builtin b=>
    cases b
    case append=>simp only[evOp];split<;>first|trivial|(rename_i heq;simp at heq;done)|(unfold zh2;(repeat' split)<;>first|trivial|exact⟨sm,fun h=>om⟩)
    case clear=>simp only[evOp];split<;>first|trivial|(rename_i heq;simp at heq;done)|(unfold zt6;(repeat' split)<;>first|trivial|exact⟨sm,fun h=>om⟩)
    case delete=>simp only[evOp];split<;>first|trivial|(rename_i heq;simp at heq;done)|(unfold zq6;(repeat' split)<;>first|trivial|exact⟨sm,fun h=>om⟩)
    all_goals first|(simp[zd7]at h;done)|trivial
   |_=>trivial
  |slice t x lo hi mx=>simp[zd7]at h
  |_=>first|(simp[zd7]at h;done)|trivial
theorem zW6 (op:Op) (hA: ∀o t x y t',op≠ .binOp o t x y t') (hN: ∀x b,op≠ .next x b):zW8 (za1 P e σ op)=false:=by
 have h:=zf2 (P:=P) (e:=e) (σ:=σ) op hA
 cases op with
 |buildSlice t n ps=>simp only[za1];unfold wX;(repeat' split)<;>rfl
 |makeSlice t l m=>simp only[za1];unfold zt7;(repeat' split)<;>rfl
 |convert t t' x=>simp only[za1];unfold zx5;(repeat' split)<;>rfl
 |slice t x lo hi mx=>
  cases lo with
  |none=>exact h
  |some lo=>cases hi with
   |some _=>exact h
   |none=>cases mx with
    |some _=>exact h
    |none=>simp only[za1];unfold zq9;(repeat' split)<;>rfl
 |next x b=>exact absurd rfl (hN x b)
 |call cl=>
  obtain⟨aa,⟨args⟩,ts⟩:=cl
  cases aa with
  |builtin b=>
   cases b
   case append=>simp only[za1];split<;>first|exact h|(rename_i heq;simp at heq;done)|(unfold ze3;(repeat' split)<;>rfl)
   all_goals exact h
  |_=>exact h
 |_=>exact h
theorem yS7:stOk n0 4 σ (za1 P e σ op):=by
 have h:stOk n0 4 σ (evOp P e σ op):=zU6
 cases op with
 |buildSlice t n ps=>simp only[za1];unfold wX;(repeat' split)<;>first|trivial|exact⟨sm,fun h=>om⟩
 |makeSlice t l m=>simp only[za1];unfold zt7;(repeat' split)<;>first|trivial|exact⟨sm,fun h=>om⟩
 |convert t t' x=>simp only[za1];unfold zx5;(repeat' split)<;>first|trivial|exact⟨sm,fun h=>om⟩
 |slice t x lo hi mx=>
  cases lo with
  |none=>exact h
  |some lo=>cases hi with
   |some _=>exact h
   |none=>cases mx with
    |some _=>exact h
    |none=>simp only[za1];unfold zq9;(repeat' split)<;>first|trivial|exact⟨sm,fun h=>om⟩
 |next x b=>cases b<;>simp only[za1]<;>first|exact h|(unfold zh4;(repeat' split)<;>first|trivial|exact⟨sm,fun h=>om⟩)
 |call cl=>
  obtain⟨aa,⟨args⟩,ts⟩:=cl
  cases aa with
  |builtin b=>
   cases b
   case append=>simp only[za1];split<;>first|exact h|(rename_i heq;simp at heq;done)|(unfold ze3;(repeat' split)<;>first|trivial|exact⟨sm,fun h=>om⟩)
   all_goals exact h
  |_=>exact h
 |_=>exact h
theorem zV1 (hA: ∀o t x y t',op≠ .binOp o t x y t') (hN: ∀x b,op≠ .next x b) (hc: ∀f az ts,op≠ .call ⟨.value f,az,ts⟩):wtop P c nt n0 4 d op K fx fx e σ=wop P c nt d op K fx fx e σ:=by
 show vtop P c nt n0 4 d op K e σ=vop P c nt d op K e σ
 have h1:zW8 (xH P d e σ op)=false:=by
  unfold xH
  split
  .exact zW6 op hA hN
  .exact zf2 op hA
 have h2:stOk n0 4 σ (xH P d e σ op):=by
  unfold xH
  split
  .exact yS7
  .exact zU6
 unfold vtop vop
 split
 .exact absurd rfl (hc _ _ _)
 .split
  .exact absurd rfl (hc _ _ _)
  .refine propext ⟨fun q=>q.2.2.2.2.2.2,fun q=>⟨fun q=>om,h1,fun q=>by simp at q,fun q=>by simp at q,fun _=>om,h2,q⟩⟩
theorem zR8 (hA: ∀o t x y t',op≠ .binOp o t x y t') (hN: ∀x b,op≠ .next x b) (_: ∀e σ,za1 P e σ op=evOp P e σ op) (hc: ∀f az ts,op≠ .call ⟨.value f,az,ts⟩):wtop P c nt n0 4 d op K fx fx e σ=wop P c nt d op K fx fx e σ:=zV1 hA hN hc
theorem zz3 (hA: ∀o t x y t',op≠ .binOp o t x y t') (hL: ∀e σ,za1 P e σ op=evOp P e σ op) (h2:stOk n0 3 σ (evOp P e σ op)) (hc: ∀f az ts,op≠ .call ⟨.value f,az,ts⟩):wtop P c nt n0 3 d op K fx fx e σ=wop P c nt d op K fx fx e σ:=by
 show vtop P c nt n0 3 d op K e σ=vop P c nt d op K e σ
 have hh:hok P d e op:= .inr hL
 unfold vtop vop
 split
 .exact absurd rfl (hc _ _ _)
 .split
  .exact absurd rfl (hc _ _ _)
  .rw[zo9 hh];simp[h2,hh,zf2 op hA]
def Kp.out (k:Kp) (id:Nat):Bool:=(decide (id<k.x)&&k.ob.isNone)||decide (k.n<=id)
@[go_sem] theorem Kp.out_pre {id:Nat}:(Kp.mk 0 n [] none).out id=decide (n<=id):=by simp[Kp.out]
@[go_sem] theorem Kp.out_but {x id:Nat}:(Kp.mk (x+1) n [] none).out id=(decide (id<x+1)||decide (n<=id)):=by simp[Kp.out]
def zb9 (n0:Kp):V->Bool
 | .ptr id _=>n0.out id
 | .lsp id _ _ _ _=>n0.out id
 |_=>false
attribute [go_sem] zb9
@[go_sem] theorem wtop_store3 (h:zb9 n0 (zD e x)=true):wtop P c nt n0 3 d (.store t x y) K fx fx e σ=wop P c nt d (.store t x y) K fx fx e σ:=
 zz3 (fun _ _ _ _ _ h=>by cases h) (fun _ _=>rfl) (by
  simp only[evOp]
  unfold zt9
  split
  .rename_i id off hx
   rw[hx]at h
   have h:n0.out id=true:=h
   simp only[Kp.out,Bn,A8,Option.isNone_iff_eq_none,decide_eq_true_eq]at h
   (repeat' split)<;>first|trivial|exact⟨sm,fun _=> .inr (Kp.of_set h)⟩
  .rename_i id s n k j hx
   rw[hx]at h
   have h:n0.out id=true:=h
   simp only[Kp.out,Bn,A8,Option.isNone_iff_eq_none,decide_eq_true_eq]at h
   (repeat' split)<;>first|trivial|exact⟨sm,fun _=> .inr (Kp.of_set h)⟩
  .trivial) (fun _ _ _ h=>by cases h)
@[go_sem] theorem wtop_move:wtop P c nt n0 0 d (.move x) K fx fx e σ=wop P c nt d (.move x) K fx fx e σ:=zi3 (fun _ _ _ _ _ h=>by cases h) (fun _ _=>rfl) rfl (fun _ _ _ h=>by cases h)
@[go_sem] theorem wtop_assign:wtop P c nt n0 0 d (.assign x) K fx fx e σ=wop P c nt d (.assign x) K fx fx e σ:=zi3 (fun _ _ _ _ _ h=>by cases h) (fun _ _=>rfl) rfl (fun _ _ _ h=>by cases h)
@[go_sem] theorem wtop_pick {z:Operand}:wtop P c nt n0 0 d (.pick x y z) K fx fx e σ=wop P c nt d (.pick x y z) K fx fx e σ:=zi3 (fun _ _ _ _ _ h=>by cases h) (fun _ _=>rfl) rfl (fun _ _ _ h=>by cases h)
@[go_sem] theorem wtop_build {l:Array (Nat×Operand)}:wtop P c nt n0 0 d (.build t l) K fx fx e σ=wop P c nt d (.build t l) K fx fx e σ:=zi3 (fun _ _ _ _ _ h=>by cases h) (fun _ _=>rfl) rfl (fun _ _ _ h=>by cases h)
@[go_sem] theorem wtop_buildSlice {l:Array (Nat×Operand)}:wtop P c nt n0 0 d (.buildSlice t n l) K fx fx e σ=zI6 (hok P d e (.buildSlice t n l)) (wop P c nt d (.buildSlice t n l) K fx fx e σ) fx:=zV0 (fun _ _ _ _ _ h=>by cases h) rfl (fun _ _ _ h=>by cases h)
@[go_sem] theorem wtop_nil:wtop P c nt n0 0 d (.nilCheck x) K fx fx e σ=wop P c nt d (.nilCheck x) K fx fx e σ:=zi3 (fun _ _ _ _ _ h=>by cases h) (fun _ _=>rfl) rfl (fun _ _ _ h=>by cases h)
theorem xl7 {op:BinOp} {t':TypeId}:wtop P c nt n0 0 d (.binOp op t x y t') K fx fx e σ=zI6 (zW8 (wh (zg7 y) (zt8 op (eqK P t) (zD e x)) (wh (zf6 y) (zq7 op (zh8 P t) (zD e x)) (zs8 op (eqK P t) (eqS P t) (zD e x) (zD e y))))=false) (wop P c nt d (.binOp op t x y t') K fx fx e σ) fx:=by
 show vtop P c nt n0 0 d (.binOp op t x y t') K e σ=(zW8 (evOp P e σ (.binOp op t x y t'))=false/\vop P c nt d (.binOp op t x y t') K e σ)
 have hh:hok P d e (.binOp op t x y t'):= .inr fun _ _=>rfl
 have h1:=zu3 (P:=P) (e:=e) (σ:=σ) (.binOp op t x y t') (show 0<3 by omega)
 have h2:stOk n0 0 σ (evOp P e σ (.binOp op t x y t')):=zr4 h1
 simp[vtop,vop,zo9 hh,hh,h1,h2,zd7]
attribute [go_sem] xl7 zW8
@[go_sem] theorem wtop_un {op:UnOp}:wtop P c nt n0 0 d (.unOp op t x) K fx fx e σ=wop P c nt d (.unOp op t x) K fx fx e σ:=zi3 (fun _ _ _ _ _ h=>by cases h) (fun _ _=>rfl) rfl (fun _ _ _ h=>by cases h)
@[go_sem] theorem wtop_conv {t':TypeId}:wtop P c nt n0 0 d (.convert t t' x) K fx fx e σ=zI6 (hok P d e (.convert t t' x)) (wop P c nt d (.convert t t' x) K fx fx e σ) fx:=zV0 (fun _ _ _ _ _ h=>by cases h) rfl (fun _ _ _ h=>by cases h)
@[go_sem] theorem wtop_slice {lo hi mx:Option Operand}:wtop P c nt n0 0 d (.slice t x lo hi mx) K fx fx e σ=zI6 (hok P d e (.slice t x lo hi mx)) (wop P c nt d (.slice t x lo hi mx) K fx fx e σ) fx:=zV0 (fun _ _ _ _ _ h=>by cases h) rfl (fun _ _ _ h=>by cases h)
@[go_sem] theorem wtop_fieldAddr {f:Nat}:wtop P c nt n0 0 d (.fieldAddr t x f) K fx fx e σ=wop P c nt d (.fieldAddr t x f) K fx fx e σ:=zi3 (fun _ _ _ _ _ h=>by cases h) (fun _ _=>rfl) rfl (fun _ _ _ h=>by cases h)
@[go_sem] theorem wtop_idxAddr {i:Operand}:wtop P c nt n0 0 d (.indexAddr t x i) K fx fx e σ=wop P c nt d (.indexAddr t x i) K fx fx e σ:=zi3 (fun _ _ _ _ _ h=>by cases h) (fun _ _=>rfl) rfl (fun _ _ _ h=>by cases h)
@[go_sem] theorem wtop_idx {i:Operand}:wtop P c nt n0 0 d (.index t x i) K fx fx e σ=wop P c nt d (.index t x i) K fx fx e σ:=zi3 (fun _ _ _ _ _ h=>by cases h) (fun _ _=>rfl) rfl (fun _ _ _ h=>by cases h)
@[go_sem] theorem wtop_extract:wtop P c nt n0 0 d (.extract x i) K fx fx e σ=wop P c nt d (.extract x i) K fx fx e σ:=zi3 (fun _ _ _ _ _ h=>by cases h) (fun _ _=>rfl) rfl (fun _ _ _ h=>by cases h)
@[go_sem] theorem wtop_len {l:Array Operand}:wtop P c nt n0 0 d (.call ⟨.builtin .len,l,ts⟩) K fx fx e σ=wop P c nt d (.call ⟨.builtin .len,l,ts⟩) K fx fx e σ:=zi3 (fun _ _ _ _ _ h=>by cases h) (fun _ _=>rfl) rfl (fun _ _ _ h=>by cases h)
@[go_sem] theorem wtop_store:wtop P c nt n0 4 d (.store t x y) K fx fx e σ=wop P c nt d (.store t x y) K fx fx e σ:=zR8 (fun _ _ _ _ _ h=>by cases h) (fun _ _ h=>by cases h) (fun _ _=>rfl) (fun _ _ _ h=>by cases h)
@[go_sem] theorem wtop_append {l:Array Operand}:wtop P c nt n0 4 d (.call ⟨.builtin .append,l,ts⟩) K fx fx e σ=wop P c nt d (.call ⟨.builtin .append,l,ts⟩) K fx fx e σ:=zV1 (fun _ _ _ _ _ h=>by cases h) (fun _ _ h=>by cases h) (fun _ _ _ h=>by cases h)
@[go_sem] theorem wtop_alloc:wtop P c nt n0 3 d (.alloc t) K fx fx e σ=wop P c nt d (.alloc t) K fx fx e σ:=zz3 (fun _ _ _ _ _ h=>by cases h) (fun _ _=>rfl) (by
 simp only[evOp];unfold zl3;split<;>first|trivial|exact⟨sm,fun _=> .inl ⟨_,rfl⟩⟩) (fun _ _ _ h=>by cases h)
attribute [go_sem] yU2 yU3
@[go_sem] theorem wtop_call {f:Operand} {l:List Operand}:wtop P c nt n0 k d (.call ⟨.value f,l.toArray,ts⟩) K fx fx e σ=wVD P c n0 k (zD e f) (l.map (zD e)) σ (xB8 nt d K fx e) fx:=id rfl
attribute [go_sem] zd7
theorem zi1 {args:List V} {v:V} (hc:Pure P f args' v) (hb:wC P f=true) (aa: ∀N,All2 (argS (ren [] N)) args' (args++caps)) (hn:noS v=true) (hk:KV v σ):
  wVD P c n0 0 (.fn f caps) args σ KV fx:=by
 refine⟨v,σ, ?_,fun _=>rfl,fun _=>KeepN.refl,A6 _,hk⟩
 rw[if_pos rfl]
 exact fun s=>zM (P:=P) (c:=c) (KV:=fun r s'=>r=v/\s'=s) hc hb (aa _) hn ⟨rfl,rfl⟩
theorem zu0 {sel:List Nat} {σ:St}:(xA sel σ s1).length=σ.length+(s1.length - sel.length):=by
 simp[xA,xM]
theorem xA8 {args:List V} {σin:St} {v:V} (hc:VCalls P f args' σin (fun r s=>r=v/\s=s1)) (hb:wC P f=true) (sel:List Nat) (ab:sel.Nodup) (hlen:σin.length=sel.length)
  (ad: ∀(i j:Nat) (o:Ob),sel[i]? =some j->σin[i]? =some o->σ[j]? =some (yJ (ren sel σ.length) o)) (aa:All2 (argS (ren sel σ.length)) args' (args++caps))
  (hk:KV (renS (ren sel σ.length) v) (xA sel σ s1)):wVD P c n0 4 (.fn f caps) args σ KV fx:=by
 refine⟨_,_, ?_,fun h=>om,fun h=>om,by rw[zu0];omega,hk⟩
 rw[if_neg dc,if_neg dc]
 refine VC.of hc hb sel ab hlen ad aa ?_
 rintro r s ⟨rfl,rfl⟩ _
 exact⟨rfl,rfl⟩
theorem yM2 {args:List V} {σin:St} {v:V} (hc:VCalls P f args' σin (fun r s=>r=v/\s=s1)) (hb:wC P f=true) (sel:List Nat) (ad:sel.Nodup) (hlen:σin.length=sel.length)
  (ae: ∀(i j:Nat) (o:Ob),sel[i]? =some j->σin[i]? =some o->σ[j]? =some (yJ (ren sel σ.length) o)) (aa:All2 (argS (ren sel σ.length)) args' (args++caps)) (ab:KeepN n0 σ (xA sel σ s1))
  (hk:KV (renS (ren sel σ.length) v) (xA sel σ s1)):wVD P c n0 3 (.fn f caps) args σ KV fx:=by
 refine⟨_,_, ?_,fun h=>om,fun _=>ab,by rw[zu0];omega,hk⟩
 rw[if_neg dc,if_neg dc]
 refine VC.of hc hb sel ad hlen ae aa ?_
 rintro r s ⟨rfl,rfl⟩ _
 exact⟨rfl,rfl⟩
theorem xA9 {args:List V} {v:V} (hc:Pure P f args' v) (hb:wC P f=true) (hf: ∀s,n0.of s=n0.of σ-> ∃aa σ1,Frz (args++caps) s aa σ1/\All2 (argS (ren [] σ1.length)) args' aa)
  (ab:yE2 v=true) (hk:KV v σ):wVD P c n0 1 (.fn f caps) args σ KV fx:=by
 refine⟨v,σ, ?_,fun _=>rfl,fun h=>om,A6 _,hk⟩
 rw[if_neg dc,if_pos rfl]
 intro s hs
 obtain⟨aa,σ1,h1,h2⟩:=hf s hs
 exact VC.view hc hb h1 h2 (fun r s h=>⟨h.2,by rw[h.1];exact ab⟩) fun r h=>⟨h.1,rfl⟩
end
def At (n0:Nat) (keep:List Nat) (vs:List V) (s:St) (e:Env) (σ:St):Prop:=
 ∃pick,Picks n0 pick σ s/\All2 (argS (ren pick σ.length)) vs (keep.map e)
def Next {S:Type} (p:S->Prop) (_:Fx p):Prop:= ∃s,p s
theorem zH {S:Type} {p:S->Prop} (s:S) (h:p s):Next p fx:=⟨s,h⟩
section
variable {P:Program} {c:Ctx} {nt:Nat} {e:Env} {σ:St} {a:Act} {w:World} {L:Nat->Nat} {β:List Value} {Q:QT} {n0:Nat}
variable {keep:List Nat}{y:Code}{f:FuncId}{code:Code}{x:Code}{fn:Func}{rs:List ResultVar}{caps:List V}{args':List V}{KV:V->St->Prop}
theorem zA (h:zt2 P c nt code Q fx fx e σ):wVW P c nt code Q fx fx e σ:=zg0 code Q e σ h
theorem zR6 {K:KT} (h:wVW P c nt x (zY1 K Q fx fx) fx fx e σ) (hy: ∀e' σ',K e' σ'->wVW P c nt y Q fx fx e' σ'):wVW P c nt (.seq x y) Q fx fx e σ:=by
 intro a w L β hs
 refine wp_seq (wp_mono (h a w L β hs) fun ex a' w' q=> ?_)
 cases ex with
 |normal=>obtain⟨e',σ',L',β',aa,hq⟩:=q;exact hy e' σ' hq a' w' L' β' aa
 |exit id=>exact q
 |goto l=>exact q
 |ret=>exact q
 |panic ch=>exact q
 |outgrown=>exact q
theorem zP (h:wVW P c nt x (zY1 (wVW P c nt y Q fx fx) Q fx fx) fx fx e σ):wVW P c nt (.seq x y) Q fx fx e σ:=zR6 h fun _ _ h=>h
theorem zj0 {id:Nat} {b:Code} (h:wVW P c nt b (wblk id Q fx) fx fx e σ):wVW P c nt (.block id b) Q fx fx e σ:=by
 intro a w L β hs
 refine wp_block (wp_mono (h a w L β hs) fun ex a' w' q=> ?_)
 cases ex with
 |exit aa=>
  obtain⟨e',σ',L',β',ab,hq⟩:=q
  change (if aa=id then Q .normal e' σ' else Q (.exit aa) e' σ')at hq
  change (if aa=id then Lift c nt Q .normal a' w' else Lift c nt Q (.exit aa) a' w')
  split
  .rename_i hid
   rw[if_pos hid]at hq
   exact⟨e',σ',L',β',ab,hq⟩
  .rename_i hid
   rw[if_neg hid]at hq
   exact⟨e',σ',L',β',ab,hq⟩
 |normal=>exact q
 |goto l=>exact q
 |ret=>exact q
 |panic ch=>exact q
 |outgrown=>exact q
theorem zR5 {b:Bool} {x:Operand} {t f:Code} (hx:zD e x= .bool b) (ht:b=true->wVW P c nt t Q fx fx e σ) (hf:b=false->wVW P c nt f Q fx fx e σ):wVW P c nt (.cond x t f) Q fx fx e σ:=by
 intro a w L β hs
 have hv:=hs.eval x
 rw[hx]at hv
 exact wp_cond_split (zd2 hv) (fun h=>ht h a w L β hs) (fun h=>hf h a w L β hs)
theorem xV2 {vs:List V} {s:St} (hn:c.σ0.length=n0) (hc:c.β0.length=c.σ0.length) (hk:At n0 keep vs s e σ) (hy:wVW P c nt y Q fx fx (envK (keep.zip vs)) s):wVW P c nt y Q fx fx e σ:=by
 intro a w L β hs
 subst hn
 obtain⟨pick,hp,aa⟩:=hk
 obtain⟨vs',s',β',⟨rfl,rfl⟩,_,ab⟩:=zN4 (Inv:=fun vs' s' _=>vs'=vs/\s'=s) (m:=0) hs hc ⟨vs,s,pick,hp,aa,rfl,rfl⟩
 exact hy a w L β' ab
theorem zf5 {S:Type} (keep:List Nat) (aa:S->List V) (ab:S->St) (I:S->Prop) (hn:c.σ0.length=n0) (hc:c.β0.length=c.σ0.length)
  (hx:wVW P c nt x (zY1 (fun e' σ'=>Next (fun s=>I s/\At n0 keep (aa s) (ab s) e' σ') fx) Q fx fx) fx fx e σ)
  (hy: ∀s,I s->wVW P c nt y Q fx fx (envK (keep.zip (aa s))) (ab s)):wVW P c nt (.seq x y) Q fx fx e σ:=
 zR6 hx fun _ _ ⟨s,hI,ad⟩=>xV2 hn hc ad (hy s hI)
theorem zI {body:Code} {S:Type} (keep:List Nat) (aa:S->List V) (ad:S->St) (ab:S->Nat) (I:S->Prop) (hn:c.σ0.length=n0) (hc:c.β0.length=c.σ0.length)
  (s0:S) (hI:I s0) (h0:At n0 keep (aa s0) (ad s0) e σ)
  (hr: ∀s,I s->wVW P c nt body (zY1 (fun e' σ'=>Next (fun s'=>ab s'<ab s/\I s'/\At n0 keep (aa s') (ad s') e' σ') fx) Q fx fx) fx fx (envK (keep.zip (aa s))) (ad s)):wVW P c nt (.loop body) Q fx fx e σ:=by
 subst hn
 intro a w L β hs
 refine zY0 (fun m a w=> ∃s L β,m=ab s/\I s/\Sim c nt (envK (keep.zip (aa s))) (ad s) a w L β) (ab s0) ?_ ?_
 .obtain⟨pick,hp,ae⟩:=h0
  obtain⟨vs',s',β',⟨rfl,rfl⟩,_,af⟩:=zN4 (Inv:=fun vs' s' _=>vs'=aa s0/\s'=ad s0) (m:=0) hs hc ⟨_,_,pick,hp,ae,rfl,rfl⟩
  exact⟨s0,L,β',rfl,hI,af⟩
 .rintro m a w ⟨s,L,β,rfl,ag,hs⟩
  refine wp_mono (hr s ag a w L β hs) fun x a' w' q=> ?_
  cases x with
  |normal=>
   obtain⟨e',σ',L',β',af,s',ah,ai,pick,hp,ae⟩:=q
   obtain⟨vs',s2,β2,⟨rfl,rfl⟩,_,aj⟩:=zN4 (Inv:=fun vs' s2 _=>vs'=aa s'/\s2=ad s') (m:=0) af hc ⟨_,_,pick,hp,ae,rfl,rfl⟩
   exact⟨ab s',ah,s',L',β2,rfl,ai,aj⟩
  |exit id=>exact q
  |goto l=>exact q
  |ret=>exact q
  |panic ch=>exact q
  |outgrown=>exact q
theorem zO {ρ:Nat->Nat} {l m:List V} (h:l=m) (hn:l.all noS=true):All2 (argS ρ) l m:=by subst h;exact zZ hn
theorem zb8 {n N:Nat}: ∀{l:List V},l.all (ltS n)=true->All2 (argS (ren (List.range n) N)) l l
 | [],_=>trivial
 |v::l,h=>by
  simp only[Am,A8]at h
  exact⟨zp6 h.1,zb8 h.2⟩
theorem zF {n N:Nat} {l m:List V} (h:l=m) (hn:l.all (ltS n)=true):All2 (argS (ren (List.range n) N)) l m:=by subst h;exact zb8 hn
theorem at_0 {vs:List V} {ρN:Nat} (hN:σ.length=ρN) (h:All2 (argS (ren [] ρN)) vs (keep.map e)):At 0 keep vs [] e σ:=by
 subst hN
 exact⟨[],⟨rfl,D7,fun i j o h=>by simp at h,fun i h=>absurd h (Bj i)⟩,h⟩
theorem at_n (k:Nat) {vs:List V} {s:St} (hs:σ.take k=s) (hk:s.length=k) (hok:s.all (ltOb k)=true) (hn:n0<=k) (h:All2 (argS (ren (List.range k) σ.length)) vs (keep.map e)):At n0 keep vs s e σ:=by
 subst hs
 have h1:σ.take k++σ.drop k=σ:=Bv k σ
 have hp:=yq0 (n0:=n0) (s:=σ.take k) (loc:=σ.drop k) (by rw[hk];exact hok) (by rw[hk];exact hn)
 rw[h1,hk]at hp
 exact⟨_,hp,h⟩
theorem zJ1 (pick:List Nat) {vs:List V} {s:St} (ad:pick.Nodup) (hn:n0=0) (aa:All2 (fun o j=>σ[j]? =some (yJ (ren pick σ.length) o)) s pick) (h:All2 (argS (ren pick σ.length)) vs (keep.map e)):At n0 keep vs s e σ:=by
 subst hn
 refine⟨pick,⟨aa.length,ad,fun i j o hi ho=> ?_,fun i h=>absurd h (Bj i)⟩,h⟩
 obtain⟨j',ab,hr⟩:=aa.get i o ho
 rw[hi]at ab
 cases ab
 exact hr
theorem VCalls.introV {nt:Nat} {args:List V} {R:V->St->Prop} (n0:Nat) (hf:P.funcs[f]? =some fn) (aa:fn.ntmps=nt) (ab:fn.results=rs.toArray) (hb:fn.body=some code) (h0:σ.length=n0) (ad:args.length<=nt)
  (h: ∀c:Ctx,c.σ0.length=n0->c.β0.length=c.σ0.length->wVW P c nt code (retQ P rs n0 R) fx fx (envA 0 args) σ):VCalls P f args σ R:=VCalls.introW n0 hf aa ab hb h0 ad h
theorem zx0 (t:Nat) (hn:nt<=100000) (hy:wVW P c nt y Q fx fx (upd e (100000+t) (.tup [])) σ):wVW P c nt y Q fx fx e σ:=by
 intro a w L β hs
 refine hy a w L β ⟨hs.mem,hs.size,hs.defs,fun k=> ?_⟩
 simp only[upd]
 split
 .rename_i hk
  subst hk
  refine⟨[], ?_,tV⟩
  have: ¬(100000+t<a.tmps.size):=by rw[hs.size];omega
  simp[Array.getD,this,undef]
 .exact hs.env k
theorem zq3 (id s:Nat) (rows:List (List V)) (hσ:σ[id]? =some (.lst rows s)) (hp:xW rows=true) (hy:wVW P c nt y Q fx fx (fun t=>frzS id rows (e t)) (zm7 id rows σ)):wVW P c nt y Q fx fx e σ:=by
 intro a w L β hs
 obtain⟨h1,h2,h3,h4⟩:=yX2 hs.mem hσ hp
 exact hy a w _ β ⟨h1,hs.size,hs.defs,fun t=>h4 _ _ (hs.env t)⟩
theorem xA7 {args ab:List V} {v:V} {σ1:St} (hc:Pure P f args' v) (hb:wC P f=true) (hf:Frz (args++caps) σ ab σ1)
  (aa:All2 (argS (ren [] σ1.length)) args' ab) (ad:yE2 v=true) (hk:KV v σ):wVC P c (.fn f caps) args σ KV fx:=
 VC.view hc hb hf aa (fun r s h=>⟨h.2,by rw[h.1];exact ad⟩) fun r h=>by rw[h.1];exact hk
attribute [go_sem] frzS frzA frzC frzK zP1 zm7
attribute [go_sem] Dw List.zip_nil_left List.zip_nil_right
theorem iV {nt:Nat} {args:List V} {R:V->St->Prop} (n0:Nat) (hf:P.funcs[f]? =some fn) (aa:fn.ntmps=nt) (ab:fn.results=rs.toArray)
  (h: ∀c:Ctx,c.σ0.length=n0->c.β0.length=c.σ0.length->wVW P c nt code (retQ P rs n0 R) fx fx (envA 0 args) σ) (hb:fn.body=some code:=by rfl) (h0:σ.length=n0:=by rfl) (ad:args.length<=nt:=by exact D1 rfl):VCalls P f args σ R:=VCalls.introV n0 hf aa ab hb h0 ad h
theorem iW {nt:Nat} {args:List V} {R:V->St->Prop} (n0:Nat) (hf:P.funcs[f]? =some fn) (aa:fn.ntmps=nt) (ab:fn.results=rs.toArray)
  (h: ∀c:Ctx,c.σ0.length=n0->c.β0.length=c.σ0.length->zz1 P c nt code (retQ P rs n0 R) (envA 0 args) σ) (hb:fn.body=some code:=by rfl) (h0:σ.length=n0:=by rfl) (ad:args.length<=nt:=by exact D1 rfl):VCalls P f args σ R:=VCalls.intro n0 hf aa ab hb h0 ad h
theorem aN (k:Nat) {vs:List V} {s:St} (hok:s.all (ltOb k)=true) (hs:σ.take k=s:=by simp[go_sem]) (hk:s.length=k:=by rfl) (hn:n0<=k:=by omega) (h:vs=keep.map e:=by simp[go_sem]) (hv:vs.all (ltS k)=true:=by rfl):At n0 keep vs s e σ:=at_n k hs hk hok hn (zF h hv)
theorem aM (k:Nat) {vs:List V} {s:St} (hok:s.all (ltOb k)=true) (h:All2 (argS (ren (List.range k) σ.length)) vs (keep.map e)) (hs:σ.take k=s:=by simp[go_sem]) (hk:s.length=k:=by rfl) (hn:n0<=k:=by omega):At n0 keep vs s e σ:=at_n k hs hk hok hn h
theorem aO {vs:List V} (h:vs=keep.map e:=by simp[go_sem]) (hv:vs.all noS=true:=by rfl):At 0 keep vs [] e σ:=at_0 rfl (zO h hv)
theorem pC {args:List V} {v:V} (hc:Pure P f args' v) (hk:KV v σ) (aa:All2 (argS (ren [] σ.length)) args' (args++caps):=by first|exact zZ rfl|exact⟨zL,zZ rfl⟩|exact⟨zL,zL,zZ rfl⟩|exact⟨zC rfl,zL,zZ rfl⟩|exact⟨zL,zL,zL,zZ rfl⟩|exact⟨zL,zC rfl,zL,zZ rfl⟩|exact⟨zC rfl,zL,zL,zZ rfl⟩|exact⟨zC rfl,zC rfl,zL,zZ rfl⟩|exact⟨zL,zL,zL,zL,zZ rfl⟩|exact⟨zL,zL,zC rfl,zL,zZ rfl⟩|exact⟨zL,zC rfl,zL,zL,zZ rfl⟩|exact⟨zL,zC rfl,zC rfl,zL,zZ rfl⟩|exact⟨zC rfl,zL,zL,zL,zZ rfl⟩|exact⟨zC rfl,zL,zC rfl,zL,zZ rfl⟩|exact⟨zC rfl,zC rfl,zL,zL,zZ rfl⟩|exact⟨zC rfl,zC rfl,zC rfl,zL,zZ rfl⟩)
  (hb:wC P f=true:=by kernel_rfl) (hn:noS v=true:=by rfl):wVC P c (.fn f caps) args σ KV fx:=zM hc hb aa hn hk
theorem pD {n0:Kp} {args:List V} {v:V} (hc:Pure P f args' v) (hk:KV v σ) (aa: ∀N,All2 (argS (ren [] N)) args' (args++caps):=by first|exact fun _=>zZ rfl|exact fun _=>⟨zL,zZ rfl⟩|exact fun _=>⟨zL,zL,zZ rfl⟩|exact fun _=>⟨zC rfl,zL,zZ rfl⟩|exact fun _=>⟨zL,zL,zL,zZ rfl⟩|exact fun _=>⟨zL,zC rfl,zL,zZ rfl⟩|exact fun _=>⟨zC rfl,zL,zL,zZ rfl⟩|exact fun _=>⟨zC rfl,zC rfl,zL,zZ rfl⟩|exact fun _=>⟨zL,zL,zL,zL,zZ rfl⟩|exact fun _=>⟨zL,zL,zC rfl,zL,zZ rfl⟩|exact fun _=>⟨zL,zC rfl,zL,zL,zZ rfl⟩|exact fun _=>⟨zL,zC rfl,zC rfl,zL,zZ rfl⟩|exact fun _=>⟨zC rfl,zL,zL,zL,zZ rfl⟩|exact fun _=>⟨zC rfl,zL,zC rfl,zL,zZ rfl⟩|exact fun _=>⟨zC rfl,zC rfl,zL,zL,zZ rfl⟩|exact fun _=>⟨zC rfl,zC rfl,zC rfl,zL,zZ rfl⟩)
  (hb:wC P f=true:=by kernel_rfl) (hn:noS v=true:=by rfl):wVD P c n0 0 (.fn f caps) args σ KV fx:=zi1 hc hb aa hn hk
theorem wR {R:V->St->Prop} {v r:V} (hr:argS (ren [] σ.length) r v:=by exact zC rfl) (hR:R r []:=by exact⟨rfl,rfl⟩):wret (some v) 0 R σ:=wW hr hR
end
mutual
inductive Shp (P:Program):TypeId->List V->Prop
 |bool {t:TypeId} (b:Bool):P.underlying t=some .bool->Shp P t [.bool b]
 |int {t:TypeId} {k:IntKind} {n:Int}:P.underlying t=some (.int k)->(Lit.int k n).wf=true->Shp P t [.int k n]
 |str {t:TypeId} {s:List UInt8}:P.underlying t=some .string->s.length<=maxLen->Shp P t [.str s]
 |sl {t e:TypeId} {rows:List (List V)}:P.underlying t=some (.slice e)->rows.length<=maxLen->ShpR P e rows->Shp P t [.sl .ro rows]
 |struct {t:TypeId} {fs:Array Field} {cells:List V}:P.underlying t=some (.struct fs)->ShpF P (fs.toList.map (·.type)) cells->Shp P t cells
inductive ShpR (P:Program):TypeId->List (List V)->Prop
 |nil {e:TypeId}:ShpR P e []
 |cons {e:TypeId} {r:List V} {rows:List (List V)}:Shp P e r->ShpR P e rows->ShpR P e (r::rows)
inductive ShpF (P:Program):List TypeId->List V->Prop
 |nil:ShpF P [] []
 |cons {t:TypeId} {ts:List TypeId} {a b:List V}:Shp P t a->ShpF P ts b->ShpF P (t::ts) (a++b)
end
def zD2 (P:Program):Nat->List Field->Nat->Bool
 |o,[],n=>o==n
 |o,f::fs,n=>f.offset==o&&zD2 P (o+P.cellsOf f.type) fs n
def okT (P:Program) (T:List TypeId):Bool:=T.all fun t=>
 match P.underlying t with
 |some .bool|some (.int _)|some .string=>true
 |some (.slice e)=>T.contains e&&decide (0<P.cellsOf e)
 |some (.struct fs)=>fs.all (fun f=>T.contains f.type)&&zD2 P 0 fs.toList (P.cellsOf t)
 |_=>false
def lims (w:World):Nat->Nat:=fun b=>match w.heap[b]? with|some (.cells c _ _)=>c.size|_=>0
section
variable {H:Type} {enc:TypeId×Value->H} {P:Program} {w:World} {base:Nat} {spare:Nat->Bool} {held:Bool}
theorem yY4 {b o:Nat} {x:Value} (h:w.cell? ⟨b,o,none⟩=some x):o<lims w b:=by
 unfold World.cell? at h
 unfold lims
 simp only at h
 split at h
 .rename_i c _ _ hb
  rw[hb]
  simp only[Option.isSome_none,Br,if_false]at h
  exact(Au.1 h).1
 .cases h
theorem xa0 {T:List TypeId} (hT:okT P T=true) {t:TypeId} (h:t∈T):(match P.underlying t with
  |some .bool|some (.int _)|some .string=>true
  |some (.slice e)=>T.contains e&&decide (0<P.cellsOf e)
  |some (.struct fs)=>fs.all (fun f=>T.contains f.type)&&zD2 P 0 fs.toList (P.cellsOf t)
  |_=>false)=true:=by
 unfold okT at hT
 rw[Aj]at hT
 exact hT t h
inductive Sm (M:Nat):V->Prop
 |bool (b:Bool):Sm M (.bool b)
 |int (k:IntKind) (n:Int):Sm M (.int k n)
 |str {s:List UInt8}:s.length<=M->Sm M (.str s)
 |sl {g:Tag} {rows:List (List V)}:rows.length<=M->(∀r∈rows,∀v∈r,Sm M v)->Sm M (.sl g rows)
 |agg {cs:List V}:(∀v∈cs,Sm M v)->Sm M (.agg cs)
structure BulkOk {H:Type} (B:DataW H->Nat) (BA:List (DataW H)->Nat):Prop where
 str: ∀s:List UInt8,s.length<=B (.lit (.string s))
 sl: ∀es sp,BA es<=B (.slice es sp)
 agg: ∀ps,BA ps<=B (.agg ps)
 mem: ∀d l,d∈l->B d<=BA l
 len: ∀l:List (DataW H),l.length<=BA l
def SmD {H:Type} (d:DataW H) (vs:List V):Prop:= ∀(B:DataW H->Nat) (BA:List (DataW H)->Nat),BulkOk B BA-> ∀M,B d<=M-> ∀v∈vs,Sm M v
theorem zN1 {T:List TypeId} (hT:okT P T=true): ∀(fuel:Nat) (t:TypeId) (cs:List Value) (x:DataW H×List MemPlace),t∈T->DataW.trod enc P w base spare held fuel t cs=some x->
  ∃vs,Shp P t vs/\All2 (RdP w (lims w)) vs cs/\SmD x.1 vs
 |0,t,cs,x,_,h=>by simp[DataW.trod]at h
 |fuel+1,t,cs,x,ht,h=>by
  have hk:=xa0 hT ht
  split at hk
  .rename_i hu
   obtain⟨b,rfl,_⟩:=DataW.trod_bool hu h
   exact⟨[.bool b],.bool b hu,⟨.bool b,tV⟩,fun _ _ _ _ _ v hv=>by simp at hv;subst hv;exact .bool b⟩
  .rename_i k hu
   obtain⟨n,rfl,_,hw⟩:=DataW.trod_int hu h
   exact⟨[.int k n],.int hu hw,⟨.int k n,tV⟩,fun _ _ _ _ _ v hv=>by simp at hv;subst hv;exact .int k n⟩
  .rename_i hu
   obtain⟨s,rfl,rfl,hs⟩:=DataW.trod_string hu h
   have hr:RdP w (lims w) (.str s.data.toList) (.string ⟨s.data.toList.toArray⟩):= .str _
   exact⟨[.str s.data.toList],.str hu (by simpa using hs),⟨hr,tV⟩,fun B BA hB M hM v hv=>by simp at hv;subst hv;exact .str (by have:=hB.str s.data.toList;simp only at hM;simp at this hM⊢;omega)⟩
  .rename_i e hu
   simp only[A8,decide_eq_true_eq,List.contains_iff_mem]at hk
   obtain⟨he,af⟩:=hk
   rcases DataW.trod_slice hu h with ⟨rfl,_⟩|⟨a,len,cap,elems,rest,n,a6,rfl,ag,hb,hl,hm,hlen,a7,_,_⟩
   .exact⟨[.sl .ro []],.sl hu (A7 _) .nil,⟨.sl0 _ _ _ (fun q=>by cases q) (fun _=>sm),tV⟩,fun _ _ _ _ _ v hv=>by simp at hv;subst hv;exact .sl (A7 _) sm⟩
   .obtain rfl:fuel=n:=om
    have each: ∀i,i<len-> ∃(vs:List V) (ab:List Value),Shp P e vs/\All2 (RdP w (lims w)) vs ab/\ab.length=P.cellsOf e/\(∀j,j<P.cellsOf e->w.cell? ((a.add (i*P.cellsOf e)).add j)=ab[j]?)/\ ∃d∈elems.map (·.1),SmD d vs:=by
     intro i hi
     have h1:=a7 i hi
     rw[A4 om]at h1
     cases hc:w.cells? base (a.add (i*P.cellsOf e)) (P.cellsOf e)with
     |none=>rw[hc]at h1;cases h1
     |some ab=>
      rw[hc]at h1
      obtain⟨_,ae,aa⟩:=World.cells?_some hc
      obtain⟨vs,hs,hr,ah⟩:=zN1 hT fuel e ab _ he h1
      exact⟨vs,ab,hs,hr,ae,aa,_,Ag.2 ⟨_,Ac _,rfl⟩,ah⟩
    rcases Eh len with rfl|a8
    .exact⟨[.sl .ro []],.sl hu (A7 _) .nil,⟨.sl0 _ _ _ (fun q=>by cases q) (fun _=>sm),tV⟩,fun _ _ _ _ _ v hv=>by simp at hv;subst hv;exact .sl (A7 _) sm⟩
    .obtain⟨b,o,spot⟩:=a
     have ai:spot=none:=by
      obtain⟨vs,ab,_,_,ae,aa,_⟩:=each 0 a8
      have h0:=aa 0 af
      rw[A4 om]at h0
      simp only[Cg,Addr.add,if_true]at h0
      cases spot with
      |none=>rfl
      |some _=>
       exfalso
       unfold World.cell? at h0
       split at h0
       .simp at h0
       .cases h0
     subst ai
     have al: ∀i j,((⟨b,o,none⟩:Addr).add (i*P.cellsOf e)).add j=⟨b,o+i*P.cellsOf e+j,none⟩:=by
      intro i j;rw[xR,xR]
     have key: ∀m,m<=len-> ∃rows:List (List V),rows.length=m/\ShpR P e rows/\(∀r∈rows,r.length=P.cellsOf e)/\(∀r∈rows,∃d∈elems.map (·.1),SmD d r)/\
       ∀i j (hi:i<rows.length) (hj:j<rows[i].length),∃x,w.cell? ⟨b,o+(len - m+i)*P.cellsOf e+j,none⟩=some x/\RdP w (lims w) (rows[i][j]) x:=by
      intro m
      induction m with
      |zero=>exact fun _=>⟨[],rfl,.nil,fun _ q=>by simp at q,fun _ q=>by simp at q,fun i j hi=>by simp at hi⟩
      |succ m ih=>
       intro hm
       obtain⟨rows,h1,h2,h3,aj,h4⟩:=ih om
       obtain⟨vs,ab,hs,hr,ae,aa,ah⟩:=each (len - (m+1)) om
       refine⟨vs::rows,by simp[h1],.cons hs h2,fun r ad=> ?_,fun r ad=> ?_,fun i j hi hj=> ?_⟩
       .rcases Ak.1 ad with rfl|ad
        .rw[hr.length,ae]
        .exact h3 r ad
       .rcases Ak.1 ad with rfl|ad
        .exact ah
        .exact aj r ad
       .cases i with
        |zero=>
         simp only[List.getElem_cons_zero]at hj⊢
         obtain⟨x,hx,ak⟩:=hr.get j _ (A4 hj)
         refine⟨x, ?_,ak⟩
         have:=aa j (by rw[<-ae,<-hr.length];exact hj)
         rw[al,hx]at this
         simpa using this
        |succ i=>
         simp only[List.getElem_cons_succ]at hj⊢
         obtain⟨x,hx,ak⟩:=h4 i j (by simpa using hi) hj
         refine⟨x, ?_,ak⟩
         rw[show len - (m+1)+(i+1)=len - m+i by omega]
         exact hx
     obtain⟨rows,h1,h2,h3,aj,h4⟩:=key len (A6 _)
     have an:len - len=0:=om
     rw[an]at h4
     simp only[Af]at h4
     subst h1
     refine⟨[.sl .ro rows],.sl hu om h2,⟨?_,tV⟩,fun B BA hB M hM v hv=>by
      simp at hv;subst hv
      rw[ag]at hM
      have q1:=hB.sl (elems.map (·.1)) (rest.map (·.1))
      have q2:=hB.len (elems.map (·.1))
      rw[Aw]at q2
      simp only at hM
      refine .sl om fun r hr v hv=> ?_
      obtain⟨d,hd,aA⟩:=aj r hr
      have q3:=hB.mem _ _ hd
      exact aA B BA hB M om v hv⟩
     let c:Nat->Nat->Value:=fun i j=>(w.cell? ⟨b,o+i*P.cellsOf e+j,none⟩).getD undef
     refine .sl .ro rows (P.cellsOf e) b o cap c (fun _=>sm) af h3 ?_ hl (fun q=>by cases q) (fun i j hi hj=> ?_) (fun i j hi hj=> ?_)
     .obtain⟨x,hx,_⟩:=h4 (rows.length - 1) (P.cellsOf e - 1) om (by rw[h3 _ (Ac _)];omega)
      have aH:=yY4 hx
      have h5:(rows.length - 1)*P.cellsOf e+P.cellsOf e=rows.length*P.cellsOf e:=by
       rw[<-Nat.succ_mul];congr 1;omega
      omega
     .obtain⟨x,hx,_⟩:=h4 i j hi (by rw[h3 _ (Ac _)];exact hj)
      simp[c,hx]
     .obtain⟨x,hx,hr⟩:=h4 i j hi hj
      simp only[c,hx,Es]
      exact hr
  .rename_i fs hu
   simp only[A8,D5,List.contains_iff_mem]at hk
   obtain⟨ao,aq⟩:=hk
   obtain⟨xs,n,a6,ag,hlen,aB,ar⟩:=DataW.trod_struct hu h
   obtain rfl:fuel=n:=om
   have key: ∀(l:List Field) (pre:List Field) (off:Nat),fs.toList=pre++l->zD2 P off l (P.cellsOf t)=true->off<=cs.length->
     ∃vs,ShpF P (l.map (·.type)) vs/\All2 (RdP w (lims w)) vs (cs.drop off)/\SmD (.agg (xs.map (·.1))) vs:=by
    intro l
    induction l with
    |nil=>
     intro pre off _ hr _
     unfold zD2 at hr
     have:off=P.cellsOf t:=by simpa using hr
     refine⟨[],.nil, ?_,fun _ _ _ _ _ v hv=>by simp at hv⟩
     rw[Ad om]
     trivial
    |cons f l ih=>
     intro pre off au hr hle
     unfold zD2 at hr
     simp only[A8,beq_iff_eq]at hr
     obtain⟨av,hr⟩:=hr
     have hf:fs[pre.length]? =some f:=by
      have:fs.toList[pre.length]? =some f:=by rw[au];simp
      simpa using this
     have hx:=ar pre.length f hf
     have aw:pre.length<xs.length:=by
      rw[aB];exact(Au.1 hf).1
     rw[A4 aw,av]at hx
     obtain⟨aC,ax,ay,az⟩:=zN1 hT fuel f.type _ _ (ao f (Array.mem_of_getElem? hf)) hx
     have a1:off+P.cellsOf f.type<=cs.length:=by
      rw[hlen]
      clear ih hx ar ax ay az
      revert hr
      generalize off+P.cellsOf f.type=o2
      intro hr
      have: ∀(l:List Field) (o:Nat),zD2 P o l (P.cellsOf t)=true->o<=P.cellsOf t:=by
       intro l
       induction l with
       |nil=>intro o h;unfold zD2 at h;simp at h;omega
       |cons f l ih=>intro o h;unfold zD2 at h;simp at h;have:=ih _ h.2;omega
      exact this l o2 hr
     obtain⟨aD,aE,aF,aG⟩:=ih (pre++ [f]) (off+P.cellsOf f.type) (by rw[au];simp) hr a1
     refine⟨aC++aD,.cons ax aE, ?_,fun B BA hB M hM v hv=>by
      rcases Ba.1 hv with hv|hv
      .have q1:=hB.agg (xs.map (·.1))
       have q2:=hB.mem (xs[pre.length]'aw).1 (xs.map (·.1)) (Ag.2 ⟨_,Ac _,rfl⟩)
       exact az B BA hB M om v hv
      .exact aG B BA hB M hM v hv⟩
     have e:cs.drop off=(cs.drop off).take (P.cellsOf f.type)++cs.drop (off+P.cellsOf f.type):=by
      rw[<-List.drop_drop];exact(Bv _ _).symm
     rw[e]
     exact ay.append aF
   obtain⟨vs,h1,h2,h3⟩:=key fs.toList [] 0 rfl aq (A7 _)
   exact⟨vs,.struct hu h1,by simpa using h2,by rw[ag];exact h3⟩
  .cases hk
def zL5 (P:Program) (t:TypeId) (vs:List V):V:=match P.underlying t with|some (.struct _)=> .agg vs|_=>vs.headD .u
inductive ShpA (P:Program):List TypeId->List V->Prop
 |nil:ShpA P [] []
 |cons {t:TypeId} {ts:List TypeId} {vs:List V} {xs:List V}:Shp P t vs->ShpA P ts xs->ShpA P (t::ts) (zL5 P t vs::xs)
theorem yQ4 {W:World} {r:Reach} {b:Nat} {t:TypeId} {v:Value} {T:List TypeId} (hT:okT P T=true) (ht:t∈T) (h:Value.okWide P W r b t v):(∃fs cs,P.underlying t=some (.struct fs)/\v= .agg cs)∨((∀fs,P.underlying t≠some (.struct fs))/\v.oneCell'=true):=by
 have hk:=xa0 hT ht
 split at hk
 .rename_i hu
  refine .inr ⟨fun fs q=>(by rw[hu]at q;cases q), ?_⟩
  cases v<;>simp[Value.okWide,hu,Cell.okWide,Cell.ok]at h<;>rfl
 .rename_i k hu
  refine .inr ⟨fun fs q=>(by rw[hu]at q;cases q), ?_⟩
  cases v<;>simp[Value.okWide,hu,Cell.okWide,Cell.ok]at h<;>rfl
 .rename_i hu
  refine .inr ⟨fun fs q=>(by rw[hu]at q;cases q), ?_⟩
  cases v<;>simp[Value.okWide,hu,Cell.okWide,Cell.ok]at h<;>rfl
 .rename_i e hu
  refine .inr ⟨fun fs q=>(by rw[hu]at q;cases q), ?_⟩
  cases v<;>simp[Value.okWide,hu,Cell.okWide,Cell.ok]at h<;>rfl
 .rename_i fs hu
  refine .inl ⟨fs, ?_⟩
  simp only[Value.okWide,hu]at h
  obtain⟨cs,rfl,_⟩:=h
  exact⟨cs,hu,rfl⟩
 .cases hk
theorem zL6 {T:List TypeId} (hT:okT P T=true): ∀(ts:List TypeId) (aa:List Value) (ds:List (DataW H)) (ps:List MemPlace),(∀t∈ts,t∈T)->(∀(j:Nat) t v,ts[j]? =some t->aa[j]? =some v->Value.okWide P w .any base t v)->
  DataW.TrodAll enc P w 0 spare held ts aa ds ps-> ∃xs,ShpA P ts xs/\All2 (RdS w (lims w) [] []) xs aa/\ ∀(B:DataW H->Nat) (BA:List (DataW H)->Nat),BulkOk B BA-> ∀M,(∀d∈ds,B d<=M)-> ∀v∈xs,Sm M v
 | [],[],_,_,_,_,_=>⟨[],.nil,tV,fun _ _ _ _ _ v hv=>by simp at hv⟩
 |t::ts,v::aa,ds,ps,hm,hok,h=>by
  obtain⟨v',vs',d,ae,p,q,hv,rfl,rfl,h1,h2⟩:=ChangeShapes.trodAll_cons h
  cases hv
  obtain⟨xs,af,ag,ah⟩:=zL6 hT ts aa ae q (fun t ht=>hm t (by simp[ht])) (fun j t' v' h1 h2=>hok (j+1) t' v' (by simpa using h1) (by simpa using h2)) h2
  obtain⟨fuel,hf⟩:=h1
  obtain⟨vs,hs,hr,ai⟩:=zN1 hT fuel t _ _ (hm t sm) hf
  suffices hall:RdS w (lims w) [] [] (zL5 P t vs) v/\ ∀M,(∀v∈vs,Sm M v)->Sm M (zL5 P t vs) from
   ⟨zL5 P t vs::xs,.cons hs af,⟨hall.1,ag⟩,fun B BA hB M hM v' ab=>by
    rcases Ak.1 ab with rfl|ab
    .exact hall.2 M fun v hv=>ai B BA hB M (hM _ sm) v hv
    .exact ah B BA hB M (fun d hd=>hM d (by simp[hd])) v' ab⟩
  rcases yQ4 hT (hm t sm) (hok 0 t v rfl rfl)with ⟨fs,cs,hu,rfl⟩|⟨aj,ad⟩
  .unfold zL5
   rw[hu]
   exact⟨⟨cs.toList,sm,hr.imp fun _ _ r=>RdC.of_pure r⟩,fun M hM=> .agg hM⟩
  .rw[zA1 ad]at hr
   have:zL5 P t vs=vs.headD .u:=by
    unfold zL5
    split
    .rename_i fs hu;exact absurd hu (aj fs)
    .rfl
   rw[this]
   cases vs with
   |nil=>exact hr.elim
   |cons x vs=>exact⟨RdS.of_cell (RdC.of_pure hr.1),fun M hM=>hM _ sm⟩
 | [],_::_,_,_,_,_,h=>by cases (ChangeShapes.trodAll_nil h).1
 |_::_,[],ds,_,_,_,h=>by cases ds<;>simp[DataW.TrodAll]at h
theorem zz8 {w':World} {sp':Nat->Bool} (hl:laidOutB P=true): ∀(ts:List TypeId) (aa:List Value) (ds:List (DataW H)) (ps:List MemPlace),(∀t∈ts,P.readableRec t=true/\t<P.types.size)->
  DataW.TrodAll enc P w 0 (fun _=>true) true ts aa ds ps->(∀x∈ps,w.sameAt w' x)->(∀x∈ps,sp' x.block=true)->DataW.TrodAll enc P w' 0 sp' true ts aa ds ps
 | [],_,_,_,_,h,_,_=>by
  obtain⟨rfl,rfl,rfl⟩:=ChangeShapes.trodAll_nil h
  rfl
 |t::ts,aa,ds,ps,hr,h,hs,hp=>by
  obtain⟨v,vs',d,ab,p,q,rfl,rfl,rfl,h1,h2⟩:=ChangeShapes.trodAll_cons h
  exact⟨p,q,WideElems.Trod_stays hl (hr t sm).1 (hr t sm).2 h1 (fun x hx=>hs x (by simp[hx])) (fun x hx=>hp x (by simp[hx])),
   zz8 hl ts vs' ab q (fun t ht=>hr t (by simp[ht])) h2 (fun x hx=>hs x (by simp[hx])) (fun x hx=>hp x (by simp[hx])),rfl⟩
theorem xh3 (w:World) (ht:GlobOk w (lims w)):Mem (entry w (lims w) [] []) w (lims w) [] []:=
 ⟨rfl,fun i o x h=>by simp at h,fun i j o o' x x' b _ h=>by simp at h,fun i o x b h=>by simp at h,fun b hb hx=>⟨rfl,rfl⟩,Le.refl _ _,A6 _,rfl,rfl,rfl,A6 _,
  fun b hb=>by
   have hb:w.heap.size<=b:=hb
   unfold lims
   rw[Array.getElem?_eq_none hb],Ext.refl _ _,ht⟩
theorem xg6 {f:FuncId} {fn:Func} {s:ChangeSpec} {apart fresh handsOn again:Bool} (T ts:List TypeId) (tb:TypeId) (ao:fn.params=ts.toArray) (ag:fn.resultTypes= #[tb]) (hb:P.underlying tb=some .bool) (hT:okT P T=true) (aq:ts.all (T.contains ·)=true)
  (ah:ts.all (fun t=>P.readableRec t&&decide (t<P.types.size))=true) (hl:laidOutB P=true) (aa:s.vars= [])
  (ai: ∀(H:Type) (ds:List (DataW H)),ds.length=ts.length->s.fn H ds={results:= [.lit (.bool true)],args:=ds})
  (ar:List V->Prop) (hw: ∀xs,ShpA P ts xs->ar xs->VCalls P f xs [] fun r _=>r= .bool true) (H:Type) (enc:TypeId×Value->H) (W:World) (base:Nat) (args:Array Value) (ds gs:List (DataW H)) (before:List MemPlace)
  (au: ∀(j:Nat) t v,fn.params[j]? =some t->args[j]? =some v->Value.okWide P W .any base t v)
  (hW:DataW.Whole enc P fn.params.toList s.vars apart W args.toList ds gs before) (aj:GlobOk W (lims W))
  (hlim: ∀xs,(∀(B:DataW H->Nat) (BA:List (DataW H)->Nat),BulkOk B BA-> ∀M,(∀d∈ds++gs,B d<=M)-> ∀v∈xs,Sm M v)->ar xs):
  Calls P f args W fun e W'=> ∃v,e= .returned v/\s.post enc P fn apart fresh handsOn again W args v W':=by
 have ak:=hW
 obtain⟨p,q,hA,hV,rfl,av,aw⟩:=hW
 rw[aa]at hV
 obtain⟨rfl,rfl⟩:=ChangeShapes.trodVars_none hV
 have al:fn.params.toList=ts:=by rw[ao]
 rw[al]at hA
 rw[Aj]at aq ah
 obtain⟨xs,hx,hr,az⟩:=zL6 (base:=base) hT ts args.toList ds p (fun t ht=>by simpa using aq t ht) (fun j t v h1 h2=>au j t v (by rw[ao];simpa using h1) (by simpa using h2)) hA
 have hlen:ds.length=ts.length:=by
  have: ∀(ts:List TypeId) (ad:List Value) (ds:List (DataW H)) (p:List MemPlace),DataW.TrodAll enc P W 0 (fun _=>true) true ts ad ds p->ds.length=ts.length:=by
   intro ts
   induction ts with
   |nil=>intro ad ds p h;obtain⟨_,rfl,_⟩:=ChangeShapes.trodAll_nil h;rfl
   |cons t ts ih=>intro ad ds p h;obtain⟨_,_,_,a6,_,_,_,rfl,_,_,h2⟩:=ChangeShapes.trodAll_cons h;simp[ih _ _ _ h2]
  exact this ts _ _ _ hA
 have ae:=hw xs hx (hlim xs fun B BA hB M hM=>az B BA hB M fun d hd=>hM d (by simp[hd])) W (lims W) [] args.toList (xh3 W aj) hr
 have ax:args.toList.toArray=args:=sm
 rw[ax]at ae
 refine ae.mono ?_
 rintro e W' ⟨v,r,L',σ',β',rfl,rfl,_,hm,ay⟩
 have a1:v= .bool true:=zd2 ay
 subst a1
 have ab:RowKit.Below W.heap.size W W':=⟨hm.os,hm.tape,hm.output,hm.size,fun k hk=>(hm.same k hk (by simp[entry,zj5])).1⟩
 have af:=ak.lt
 simp only[Bc]at af ak av aw
 have an:s.fn H ds={results:= [.lit (.bool true)],args:=ds}:=ai H ds hlen
 refine⟨_,rfl,ds,[],p,[],p,[],ak, ?_, ?_, ?_, ?_,fun _=>⟨?_, ?_⟩⟩
 .rw[Bc,an,ag]
  exact ChangeShapes.trodAll_mk1 (RowKit.shut_bool hb _)
 .rw[Bc,an,al]
  exact zz8 hl ts _ _ _ (fun t ht=>by simpa using ah t ht) hA (fun x hx=>ab.same (af x hx)) (fun x hx=>by simpa using af x hx)
 .rw[Bc,an,aa]
  rfl
 .exact ab.frame _
 .exact RowKit.ok_one ag rfl (RowKit.okWide_bool_mk hb _)
 .rw[al,ag]
  refine⟨[.lit (.bool true)]++ds,[],p,⟨[]++p,[],ChangeShapes.trodAll_append (zz8 (sp':=fun _=>true) hl ts _ _ _ (fun t ht=>by simpa using ah t ht) hA (fun x hx=>ab.same (af x hx)) (fun x hx=>rfl)) ?_,by rw[aa];rfl,sm, ?_,aw⟩,fun x hx _=>hx⟩
  .exact ChangeShapes.trodAll_mk1 (RowKit.shut_bool hb _)
  .intro b off hp
   rw[ab.frozen (p:=⟨b,off,none⟩) (af _ hp)]
   exact av b off hp
theorem xu2 {f:FuncId} {fn:Func} {s:ChangeSpec} {apart fresh handsOn again:Bool} (T ts:List TypeId) (tb:TypeId) (af:fn.params=ts.toArray) (ag:fn.resultTypes= #[tb]) (hb:P.underlying tb=some .bool) (hT:okT P T=true) (ah:ts.all (T.contains ·)=true)
  (ai:ts.all (fun t=>P.readableRec t&&decide (t<P.types.size))=true) (hl:laidOutB P=true) (aa:s.vars= [])
  (ab: ∀(H:Type) (ds:List (DataW H)),ds.length=ts.length->s.fn H ds={results:= [.lit (.bool true)],args:=ds})
  (hw: ∀xs,ShpA P ts xs->VCalls P f xs [] fun r _=>r= .bool true) (H:Type) (enc:TypeId×Value->H) (W:World) (base:Nat) (args:Array Value) (ds gs:List (DataW H)) (before:List MemPlace)
  (ae: ∀(j:Nat) t v,fn.params[j]? =some t->args[j]? =some v->Value.okWide P W .any base t v)
  (hW:DataW.Whole enc P fn.params.toList s.vars apart W args.toList ds gs before) (ad:GlobOk W (lims W)):
  Calls P f args W fun e W'=> ∃v,e= .returned v/\s.post enc P fn apart fresh handsOn again W args v W':=
 xg6 T ts tb af ag hb hT ah ai hl aa ab (fun _=>True) (fun xs h _=>hw xs h) H enc W base args ds gs before ae hW ad fun _ _=>trivial
variable {t:TypeId} {vs:List V}
theorem ShpA.cons_inv {ts:List TypeId} {xs:List V} (h:ShpA P (t::ts) xs): ∃vs aa,xs=zL5 P t vs::aa/\Shp P t vs/\ShpA P ts aa:=by
 cases h with
 |cons h1 h2=>exact⟨_,_,rfl,h1,h2⟩
theorem ShpA.nil_inv {xs:List V} (h:ShpA P [] xs):xs= []:=by cases h;rfl
theorem Shp.int_inv {k:IntKind} (hu:P.underlying t=some (.int k)) (h:Shp P t vs): ∃n,vs= [.int k n]/\(Lit.int k n).wf=true:=by
 cases h with
 |int h1 h2=>rw[hu]at h1;cases h1;exact⟨_,rfl,h2⟩
 |bool b h1=>rw[hu]at h1;cases h1
 |str h1 _=>rw[hu]at h1;cases h1
 |sl h1 _ _=>rw[hu]at h1;cases h1
 |struct h1 _=>rw[hu]at h1;cases h1
theorem Shp.sl_inv {e:TypeId} (hu:P.underlying t=some (.slice e)) (h:Shp P t vs): ∃rows,vs= [.sl .ro rows]/\rows.length<=maxLen/\ShpR P e rows:=by
 cases h with
 |int h1 h2=>rw[hu]at h1;cases h1
 |bool b h1=>rw[hu]at h1;cases h1
 |str h1 h2=>rw[hu]at h1;cases h1
 |sl h1 h2 h3=>rw[hu]at h1;cases h1;exact⟨_,rfl,h2,h3⟩
 |struct h1 _=>rw[hu]at h1;cases h1
theorem Shp.struct_inv {fs:Array Field} (hu:P.underlying t=some (.struct fs)) (h:Shp P t vs):ShpF P (fs.toList.map (·.type)) vs:=by
 cases h with
 |int h1 h2=>rw[hu]at h1;cases h1
 |bool b h1=>rw[hu]at h1;cases h1
 |str h1 h2=>rw[hu]at h1;cases h1
 |sl h1 h2 h3=>rw[hu]at h1;cases h1
 |struct h1 h2=>rw[hu]at h1;cases h1;exact h2
theorem ShpF.cons_inv {ts:List TypeId} (h:ShpF P (t::ts) vs): ∃a b,vs=a++b/\Shp P t a/\ShpF P ts b:=by
 cases h with
 |cons h1 h2=>exact⟨_,_,rfl,h1,h2⟩
theorem ShpF.nil_inv (h:ShpF P [] vs):vs= []:=by cases h;rfl
theorem ShpR.map_inv {α:Type} {f:α->List V} {ok:α->Prop} (h: ∀r,Shp P t r-> ∃x,r=f x/\ok x): ∀{rows:List (List V)},ShpR P t rows-> ∃xs:List α,rows=xs.map f/\ ∀x∈xs,ok x
 | [],_=>⟨[],rfl,fun _ q=>by simp at q⟩
 |r::rows,hr=>by
  cases hr with
  |cons h1 h2=>
   obtain⟨x,rfl,hx⟩:=h r h1
   obtain⟨xs,rfl,aa⟩:=ShpR.map_inv h h2
   exact⟨x::xs,rfl,fun y hy=>by(rcases Ak.1 hy with rfl|hy<;>first|exact hx|exact aa y hy)⟩
theorem zT9 {v:V} (h:(match P.underlying t with|some (.struct _)=>false|_=>true)=true):zL5 P t [v]=v:=by
 unfold zL5
 split
 .rename_i hu;rw[hu]at h;cases h
 .rfl
theorem yz7 {n:Int} (h:(Lit.int .i64 n).wf=true): -9223372036854775808<=n/\n<=9223372036854775807:=by
 simpa[Lit.wf,IntKind.min,IntKind.max,IntKind.signed,IntKind.bits]using h
theorem xO5 {n:Int} (h:(Lit.int .u8 n).wf=true):0<=n/\n<=255:=by
 simpa[Lit.wf,IntKind.min,IntKind.max,IntKind.signed,IntKind.bits]using h
end
variable {ρ:Nat->Nat}{σ:St}{f:FuncId}{P:Program}{c:Ctx}{caps:List V}{args':List V}{KV:V->St->Prop}
theorem xG0 {j:Nat} (h:j<=9223372036854775807):IntKind.i64.wrap (j:Int)=j:=IntWalk.i64_in _ om
theorem i64_id {n:Int} (h: -9223372036854775808<=n) (h2:n<=9223372036854775807):IntKind.i64.wrap n=n:=IntWalk.i64_in _ om
theorem u64_id {n:Int} (h:0<=n) (h2:n<=18446744073709551615):IntKind.u64.wrap n=n:=by
 unfold IntKind.wrap
 simp[IntKind.bits,IntKind.signed]
 omega
@[go_sem] theorem i64_lit (n:Nat) (h:n<=9223372036854775807):IntKind.i64.wrap (no_index (OfNat.ofNat n))=OfNat.ofNat n:=by
 rw[show(OfNat.ofNat n:Int)=((n:Nat):Int) from rfl]
 exact xG0 h
theorem zS {i n:Nat} (h:i<n) (hn:n<=9223372036854775807):IntKind.i64.wrap ((i:Int)+1)=((i+1:Nat):Int):=by
 rw[IntWalk.i64_in _ om];rfl
theorem ya0 {α:Type} {f:α->List V} {s:Nat} {l:List α} (h: ∀x,(f x).length=s):uni s (l.map f):=fun r hr=>by
 obtain⟨x,_,rfl⟩:=Ag.1 hr
 exact h x
theorem zX {s:Nat} {r:List V} (h:r.length=s):uni s [r]:=fun x hx=>by simp at hx;subst hx;exact h
theorem xF (k:Nat) {n0:Nat} {R:V->St->Prop} {s:St} {v r:V} (hs:σ.take k=s) (hl:s.length=k) (hok:s.all (ltOb k)=true) (hn:n0<=k) (hr:argS (ren (List.range k) σ.length) r v) (hR:R r s):wret (some v) n0 R σ:=by
 subst hs;exact zs6 k hl hok hn hr hR
def i64R (n:Int):Prop:= -9223372036854775808<=n/\n<=9223372036854775807
instance (n:Int):Decidable (i64R n):=inferInstanceAs (Decidable (_/\_))
@[go_sem] def yK (n:Int):List V:= [.int .i64 n]
theorem xT {vs' vs:List V} (h:All2 (argA ρ) vs' vs):argS ρ (.tup vs') (.tup vs):= .inr (.inr (.inr (.inr ⟨vs',vs,rfl,rfl,h⟩)))
theorem zt3 {g:Tag} {rows:List (List V)}:argA ρ (.sl .ro rows) (.sl g rows):= .inr (.inl ⟨g,rows,rfl,rfl⟩)
theorem zb3 {v:V} (h:noA v=true):argA ρ v v:= .inl (yx7 h).symm
theorem yS {g:Tag} {rows:List (List V)}:argC ρ (.sl .ro rows) (.sl g rows):= .inr ⟨g,rows,rfl,rfl⟩
theorem zU {v:V} (h:noC v=true):argC ρ v v:= .inl (zE1 h).symm
theorem zu7 {aa cs:List V} (h:All2 (argC ρ) aa cs):argS ρ (.agg aa) (.agg cs):= .inr (.inr (.inr (.inl ⟨aa,cs,rfl,rfl,h⟩)))
theorem zc9 {aa cs:List V} (h:All2 (argC ρ) aa cs):argA ρ (.agg aa) (.agg cs):= .inr (.inr ⟨aa,cs,rfl,rfl,h⟩)
theorem xL1 {args:List V} {R:V->Prop} (hc:VCalls P f args' [] fun r s=>R r/\s= []) (hb:wC P f=true) (aa:All2 (argS (ren [] σ.length)) args' (args++caps))
  (hn: ∀r,R r->noS r=true) (hk: ∀r,R r->KV r σ):wVC P c (.fn f caps) args σ KV fx:=by
 refine VC.of hc hb [] D7 rfl (fun i j o h=>by simp at h) aa ?_
 rintro r σ' ⟨hR,rfl⟩ _
 rw[zE2 (hn r hR)]
 have:xA [] σ []=σ:=by simp[xA,mset]
 rw[this];exact hk r hR
theorem zX1 {k:Nat} {s:St} (hk:k<=σ.length) (hs:s.length=k) (hok:s.all (ltOb k)=true):xA (List.range k) σ s=s++σ.drop k:=by
 have e1:(s.take (List.range k).length).map (yJ (ren (List.range k) σ.length))=s:=by
  rw[Dz,Az om]
  exact xV (fun o h=>wF (n:=k) (fun i hi=>ze5 hi) h) hok
 have e2:(s.drop (List.range k).length).map (yJ (ren (List.range k) σ.length))= []:=by
  rw[Dz,By om];rfl
 unfold xA
 rw[e1,e2,Bc]
 apply C7
 intro i
 by_cases hi:i<k
 .rw[zZ5 (List.range k) σ s i i C5 (fun q hq=>by have:=C0.1 hq;omega) (by rw[Dz];omega) (by rw[D0 hi]),Ae om]
 .rw[zh9 _ _ _ _ (fun h=>hi (C0.1 h)),An om,B4,hs]
  congr 1;omega
theorem ze1 (k:Nat) {args:List V} {σin:St} {R:V->St->Prop} (hc:VCalls P f args' σin R) (hb:wC P f=true) (hk:σ.take k=σin) (hl:σin.length=k) (hok:σin.all (ltOb k)=true)
  (aa:All2 (argS (ren (List.range k) σ.length)) args' (args++caps)) (hR: ∀r s,R r s->s.length=k/\s.all (ltOb k)=true/\ltS k r=true) (hK: ∀r s,R r s->KV r (s++σ.drop k)):wVC P c (.fn f caps) args σ KV fx:=by
 have ab:k<=σ.length:=by rw[<-hl,<-hk];simp;exact Nat.min_le_right _ _
 refine VC.of hc hb (List.range k) C5 (by simp[hl]) (fun i j o h1 h2=> ?_) aa fun r s h _=> ?_
 .obtain⟨h3,h4⟩:=A5.1 h1
  simp at h3 h4
  subst h4
  have ho:ltOb k o=true:=by
   rw[Aj]at hok
   exact hok o (Ay.2 ⟨i,h2⟩)
  rw[wF (n:=k) (fun i hi=>ze5 hi) ho]
  rw[<-hk,Ai,if_pos h3]at h2
  exact h2
 .obtain⟨h1,h2,h3⟩:=hR r s h
  rw[yx8 (n:=k) (fun i hi=>ze5 hi) h3,zX1 ab h1 h2]
  exact hK r s h
theorem zm2 (i:Nat) {o:Ob} {args:List V} {R:V->St->Prop} (hc:VCalls P f args' [o] R) (hb:wC P f=true) (ho:σ[i]? =some o) (hok:ltOb 0 o=true)
  (aa:All2 (argS (ren [i] σ.length)) args' (args++caps)) (hR: ∀r s,R r s-> ∃o2,s= [o2]/\ltOb 0 o2=true) (hK: ∀r o2,R r [o2]->KV (renS (ren [i] σ.length) r) (σ.set i o2)):wVC P c (.fn f caps) args σ KV fx:=by
 refine xL0 hc hb ho hok aa fun r s h _=> ?_
 obtain⟨o2,rfl,h2⟩:=hR r s h
 have e:xA [i] σ [o2]=σ.set i o2:=by
  simp only[xA,Bk,C3,Dx,Dp,Bh,As,Bx,mset,Bc]
  rw[wF (n:=0) (fun _ h=>absurd h (Bj _)) h2]
 rw[e];exact hK r o2 h
theorem xI5 {i N:Nat}:ren [i] N 0=i:=rfl
attribute [go_sem] renS renA renC renK xI5
section
variable {ρ:Nat->Nat} (hρ: ∀i,ρ i=i)
include hρ
theorem xI4 (v:V):renK ρ v=v:=by
 cases v with
 |sl g rows=>cases g<;>simp[renK,hρ]
 |_=>simp[renK,hρ]
theorem xb2 (v:V):renC ρ v=v:=by
 have h:renK ρ=fun v=>v:=funext fun v=>xI4 hρ v
 cases v with
 |fn f caps=>simp only[renC,h,E3]
 |ifc t v=>simp only[renC,h,E3]
 |_=>simp only[renC,h]
theorem xb1 (v:V):renA ρ v=v:=by
 have h:renC ρ=fun v=>v:=funext fun v=>xb2 hρ v
 cases v with
 |agg cs=>simp only[renA,h,E3]
 |_=>simp only[renA,h]
theorem zy7 (v:V):renS ρ v=v:=by
 have h:renA ρ=fun v=>v:=funext fun v=>xb1 hρ v
 cases v with
 |tup vs=>simp only[renS,h,E3]
 |_=>simp only[renS,h]
theorem zr2 (o:Ob):yJ ρ o=o:=by
 have h:renC ρ=fun v=>v:=funext fun v=>xb2 hρ v
 cases o with
 |box cells=>simp only[yJ,h,E3]
 |lst rows s=>simp only[yJ,h,E3]
 |mp kvs borns clk=>
  have h:renA ρ=fun v=>v:=funext fun v=>xb1 hρ v
  simp only[yJ,h,E3]
 |it m since seen last=>cases m<;>simp[yJ,hρ]
 |_=>rfl
end
variable {σ:St}{P:Program}{c:Ctx}{nt:Nat}{Q:QT}{e:Env}{y:Code}
theorem zI3 {f:FuncId} {caps args args':List V} {KV:V->St->Prop} {R:V->St->Prop} (hc:VCalls P f args' [] R) (hb:wC P f=true)
  (aa:All2 (argS (ren [] 0)) args' (args++caps)) (hK: ∀r s,R r s->KV r s):wVC P c (.fn f caps) args [] KV fx:=by
 have hid: ∀i,ren [] 0 i=i:=fun i=>by simp[ren]
 refine VC.of hc hb [] D7 rfl (fun i j o h=>by simp at h) aa fun r s h _=> ?_
 have e:xA [] [] s=s:=by
  have h2:yJ (ren [] 0)=fun o=>o:=funext fun o=>zr2 hid o
  simp[xA,mset,h2]
 show KV (renS (ren [] 0) r) (xA [] [] s)
 rw[e,zy7 hid]
 exact hK r s h
theorem zc3 {id:Nat} {ops:List Oper} (q:List (Nat×Nat)) (n0:Nat) (hn:n0<=σ.length) (hm:P.follows .mixedOrders=true) (hd:(zz5 ops q&&zc7 ops)=true) (h:wtr P c nt (Kp.pre n0) ops q 0 ops (Q .normal) fx fx fx e σ):wVW P c nt (.region id ops.toArray true) Q fx fx e σ:=by
 simp only[A8]at hd
 obtain⟨tr,ht,hK⟩:=zp5 ops 0 (Q .normal) e σ h
 exact VW.draw (n0:=Kp.pre n0) hm hn hd.1 hd.2 ht hK
theorem za7 {id:Nat} {ops:List Oper} (q:List (Nat×Nat)) (x n0:Nat) (hn:n0<=σ.length) (hm:P.follows .mixedOrders=true) (hd:(zz5 ops q&&zc7 ops)=true) (h:wtr P c nt (Kp.mk x n0 [] none) ops q 0 ops (Q .normal) fx fx fx e σ):wVW P c nt (.region id ops.toArray true) Q fx fx e σ:=by
 simp only[A8]at hd
 obtain⟨tr,ht,hK⟩:=zp5 ops 0 (Q .normal) e σ h
 exact VW.draw (n0:=Kp.mk x n0 [] none) hm hn hd.1 hd.2 ht hK
theorem zo3 (t s:Nat) (h0:0<s) (ht:e t= .sl .full []) (hy:wVW P c nt y Q fx fx (upd e t (.sl (.app σ.length) [])) (σ++ [.app 0 s])):wVW P c nt y Q fx fx e σ:=by
 intro a w L β hs
 have hr:=hs.env t
 rw[ht]at hr
 obtain⟨ad,hx⟩: ∃ad,a.tmps.getD t undef= .slice ad 0 0:=by
  have hr:RdP w L (.sl .full []) (a.tmps.getD t undef):=hr
  generalize a.tmps.getD t undef=x at hr
  cases hr with
  |sl0 g ad cap hg ha=>have:=hg rfl;subst this;exact⟨ad,rfl⟩
  |sl g rows s b o cap c ha hs hlen hlim hcap hg hc hr=>have:=hg rfl;subst this;exact⟨_,rfl⟩
 have aa:=Ext.push σ β hs.mem.len (.app 0 s) (.slice ad 0 0)
 refine hy a w L (β++ [.slice ad 0 0]) ⟨hs.mem.own h0,hs.size,hs.defs,fun k=> ?_⟩
 simp only[upd]
 split
 .rename_i hk
  subst hk
  rw[hx]
  exact⟨.sl0 .ro ad 0 (fun h=>by cases h) (fun _ h=>by cases h),0,s,sm,A7 _,fun _=>by rw[<-hs.mem.len];simp,fun r h=>by simp at h⟩
 .exact(hs.env k).mono (Le.refl _ _) aa
theorem zI4 (id off s:Nat) (cells:List V) (h0:0<s) (hσ:σ[id]? =some (.box cells)) (hc:cells[off]? =some (.sl .full []))
  (hy:wVW P c nt y Q fx fx e (σ.set id (.box (cells.set off (.sl (.app σ.length) [])))++ [.app 0 s])):wVW P c nt y Q fx fx e σ:=by
 intro a w L β hs
 obtain⟨x,h1,h2⟩:=xD4 hs.mem h0 hσ hc
 exact hy a w L (β++ [x]) ⟨h1,hs.size,hs.defs,fun k=>(hs.env k).mono (Le.refl _ _) h2⟩
theorem zK6 (t s:Nat) (h0:0<s) (ht:e t= .sl .full []) (hy:wVW P c nt y Q fx fx (upd e t (.lsv σ.length s 0 0 0)) (σ++ [.lst [] s])):wVW P c nt y Q fx fx e σ:=by
 intro a w L β hs
 have hr:=hs.env t
 rw[ht]at hr
 obtain⟨ad,hx⟩: ∃ad,a.tmps.getD t undef= .slice ad 0 0:=by
  have hr:RdP w L (.sl .full []) (a.tmps.getD t undef):=hr
  generalize a.tmps.getD t undef=x at hr
  cases hr with
  |sl0 g ad cap hg ha=>have:=hg rfl;subst this;exact⟨ad,rfl⟩
  |sl g rows s b o cap c ha hs hlen hlim hcap hg hc hr=>have:=hg rfl;subst this;exact⟨_,rfl⟩
 have aa:=Ext.push σ β hs.mem.len (.lst [] s) (.slice ad 0 0)
 refine hy a w L (β++ [.slice ad 0 0]) ⟨hs.mem.lstNil h0,hs.size,hs.defs,fun k=> ?_⟩
 simp only[upd]
 split
 .rename_i hk
  subst hk
  rw[hx]
  exact zP6 (w':=w) (L':=L) (s:=s) (rows:= []) (cap:=0) (a0:=ad) hs.mem.len (A6 _) (fun h=>absurd h om)
 .exact(hs.env k).mono (Le.refl _ _) aa
theorem yG8 {s:St} (h:σ.length<=s.length):xA (List.range σ.length) σ s=s:=by
 have ra: ∀i,ren (List.range σ.length) σ.length i=i:=fun i=>by
  by_cases h:i<σ.length
  .exact ze5 h
  .rw[zs2 (by simp;omega)];simp;omega
 have hid:yJ (ren (List.range σ.length) σ.length)=fun o=>o:=funext fun o=>zr2 ra o
 apply C7
 intro i
 by_cases hi:i<s.length
 .have:=zu4 (sel:=List.range σ.length) (σc:=σ) (σ':=s) C5 (fun q hq=>C0.1 hq) (by simpa using h) (A4 hi)
  rw[ra,hid]at this
  rw[this,A4 hi]
 .have hl:(xA (List.range σ.length) σ s).length=s.length:=by rw[zu0];simp;omega
  rw[Bg om,Bg om]
theorem zC0 {f:FuncId} {caps args:List V} {KV:V->St->Prop} {R:V->St->Prop} (hc:VCalls P f (args++caps) σ R) (hb:wC P f=true)
  (hk: ∀r s,R r s->σ.length<=s.length->KV r s):wVC P c (.fn f caps) args σ KV fx:=by
 have ra: ∀i,ren (List.range σ.length) σ.length i=i:=fun i=>by
  by_cases h:i<σ.length
  .exact ze5 h
  .rw[zs2 (by simp;omega)];simp;omega
 refine VC.of hc hb (List.range σ.length) C5 sm (fun i j o hi ho=> ?_) ?_ ?_
 .obtain⟨h3,h4⟩:=A5.1 hi
  simp at h3 h4
  subst h4
  rw[zr2 ra];exact ho
 .have: ∀l:List V,All2 (argS (ren (List.range σ.length) σ.length)) l l:=by
   intro l
   induction l with
   |nil=>trivial
   |cons a l ih=>exact⟨.inl (zy7 ra a).symm,ih⟩
  exact this _
 .intro r s hr hl
  rw[zy7 ra,yG8 (by simpa using hl)]
  exact hk r s hr (by simpa using hl)
theorem yi4 {n0:Nat} {R:V->St->Prop} {r:V} (hn:n0<=σ.length) (hR:R r σ):wret (some r) n0 R σ:=by
 have ra: ∀i,ren (List.range σ.length) σ.length i=i:=fun i=>by
  by_cases h:i<σ.length
  .exact ze5 h
  .rw[zs2 (by simp;omega)];simp;omega
 refine⟨r,rfl,r,σ,List.range σ.length,σ,r,.refl _ _,⟨sm,C5,fun i j o hi ho=> ?_,fun i hi=>by rw[D0 om]⟩,.inl (zy7 ra r).symm,hR⟩
 obtain⟨h1,h2⟩:=A5.1 hi
 simp at h1 h2
 subst h2
 rw[zr2 ra]
 exact ho
end Go.Vx
