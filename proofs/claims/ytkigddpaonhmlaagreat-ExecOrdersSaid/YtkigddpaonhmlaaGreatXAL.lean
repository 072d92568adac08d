/-
  Walks with cuts: a statement's end held by the slots that are read later, what follows proved once.
  No condition: a library text; nothing of the program is named.
-/
import Derived.Test.YtkigddpaonhmlaaGreatXAK
set_option maxHeartbeats 8000000
namespace Go.Vx
open Go
def isSt:R->Bool
 | .st .. | .needst .. =>true
 |_=>false
def zW0:R->Bool
 | .all _| .any _=>true
 |_=>false
def stOk (n0:Kp) (k:Nat) (σ:St):R->Prop
 | .st _ σ'| .needst _ _ σ'=>σ.length<=σ'.length/\(k=3->KeepN n0 σ σ')
 |_=>True
def vtop (P:Program) (c:Ctx) (nt:Nat) (n0:Kp) (k:Nat) (d:Option Tmp) (op:Op) (K:KT) (e:Env) (σ:St):Prop:=
 match op with
 | .call ⟨.value f,args,_⟩=> ∃v σ',(if k=0 then∀s,VC P c (zF e f) (args.toList.map (zF e)) s (fun r s'=>r=v/\s'=s)else if k=1 then∀s,n0.of s=n0.of σ->VC P c (zF e f) (args.toList.map (zF e)) s (fun r s'=>r=v/\s'=s)else VC P c (zF e f) (args.toList.map (zF e)) σ (fun r s=>r=v/\s=σ'))/\
   (k<3->σ'=σ)/\(k=3->KeepN n0 σ σ')/\σ.length<=σ'.length/\vput nt d v K e σ'
 |op=>(k<3->hok P d e op)/\zW0 (xL P d e σ op)=false/\(k=0->zd3 op=0)/\(k=1->(∃t x,op= .load t x/\imm n0 (zF e x)=true)∨(∀t x,op≠ .load t x)/\ ∀s,n0.of s=n0.of σ->evOp P e s op=evOp P e σ op)/\(isSt (xL P d e σ op)=true->3<=k)/\stOk n0 k σ (xL P d e σ op)/\vfin nt d (xL P d e σ op) K e σ
def vtr (P:Program) (c:Ctx) (nt:Nat) (n0:Kp) (ops:List Oper) (q:List (Nat×Nat)):Nat->List Oper->KT->Env->St->Prop
 |_,[],K,e,σ=>K e σ
 |i,o::os,K,e,σ=>vgd o.guard ops e (vtop P c nt n0 (zY q i o) o.dst o.op (vtr P c nt n0 ops q (i+1) os K) e σ) (vput nt o.dst (.tup []) (vtr P c nt n0 ops q (i+1) os K) e σ)
section
variable {P:Program} {c:Ctx} {nt:Nat} {n0:Kp}
theorem yj6 {d:Option Tmp} {v:V} {K:KT} {e:Env} {σ:St} (h:vput nt d v K e σ):(∀t,d=some t->t<nt)/\K (updO e d v) σ:=by
 cases d with
 |none=>exact⟨fun t q=>(by cases q),h⟩
 |some t=>exact⟨fun t' q=>by cases q;exact h.1,h.2⟩
theorem zo3 {ops:List Oper} {q:List (Nat×Nat)}: ∀(os:List Oper) (i:Nat) (K:KT) (e:Env) (σ:St),vtr P c nt n0 ops q i os K e σ->
  ∃tr,zt3 P c nt n0 ops q i os e σ tr/\K (fE (fun _=>true) i os tr e) (fS (fun _=>true) q i os tr σ)
 | [],i,K,e,σ,h=>⟨[],trivial,h⟩
 |o::os,i,K,e,σ,h=>by
  have go: ∀(v:V) (σ':St),Fact P c nt n0 ops q i o e σ v σ'->vtr P c nt n0 ops q (i+1) os K (updO e o.dst v) σ'-> ∃tr,zt3 P c nt n0 ops q i (o::os) e σ tr/\K (fE (fun _=>true) i (o::os) tr e) (fS (fun _=>true) q i (o::os) tr σ):=by
   intro v σ' hf hk
   obtain⟨tr,ht,hK⟩:=zo3 os (i+1) K _ _ hk
   refine⟨(v,σ')::tr,⟨hf,ht⟩, ?_⟩
   rw[fE,fS,if_pos rfl]
   have:(if((fun _=>true) i&&decide (3<=zY q i o))=true then σ' else σ)=σ':=by
    by_cases h2:3<=zY q i o
    .rw[if_pos (by simp[h2])]
    .rw[if_neg (by simp[h2])];exact(hf.2.1 (by omega)).symm
   rw[this]
   exact hK
  have yes:(match o.guard with|none=>True|some (j,want)=> ∃t b,gdst ops j=some t/\e t= .bool b/\b=want)->vtop P c nt n0 (zY q i o) o.dst o.op (vtr P c nt n0 ops q (i+1) os K) e σ->
    ∃tr,zt3 P c nt n0 ops q i (o::os) e σ tr/\K (fE (fun _=>true) i (o::os) tr e) (fS (fun _=>true) q i (o::os) tr σ):=by
   intro hg hv
   have hgt: ∃g:Bool,(match o.guard with|none=>g=true|some (j,want)=> ∃t,gdst ops j=some t/\((∃b,e t= .bool b/\g=(b==want))∨(e t= .tup []/\g=false)))/\g=true:=by
    refine⟨true, ?_,rfl⟩
    split
    .rfl
    .rename_i j want hgj
     rw[hgj]at hg
     obtain⟨t,b,h1,h2,h3⟩:=hg
     exact⟨t,h1,.inl ⟨b,h2,by simp[h3]⟩⟩
   obtain⟨g,hg1,rfl⟩:=hgt
   unfold vtop at hv
   split at hv
   .rename_i f args ts hop
    obtain⟨v,σ',hvc,hlt,h3,hlen,hp⟩:=hv
    obtain⟨hd,hk⟩:=yj6 hp
    refine go v σ' ⟨hd,hlt,h3,hlen,true,hg1, ?_⟩ hk
    rw[if_pos rfl,hop]
    exact hvc
   .rename_i hno
    obtain⟨hhk,hna,hz,ho1,hst,hso,hv⟩:=hv
    have done: ∀v σ',(zY q i o<3->σ'=σ)->(zY q i o=3->KeepN n0 σ σ')->σ.length<=σ'.length->
      ((xL P o.dst e σ o.op= .ok v/\σ'=σ)∨(∃p,xL P o.dst e σ o.op= .need p v/\p/\σ'=σ)∨(3<=zY q i o/\(xL P o.dst e σ o.op= .st v σ'∨ ∃p,xL P o.dst e σ o.op= .needst p v σ'/\p)))->
      vput nt o.dst v (vtr P c nt n0 ops q (i+1) os K) e σ'-> ∃tr,zt3 P c nt n0 ops q i (o::os) e σ tr/\K (fE (fun _=>true) i (o::os) tr e) (fS (fun _=>true) q i (o::os) tr σ):=by
     intro v σ' h2 h3 hlen hf hp
     obtain⟨hd,hk⟩:=yj6 hp
     refine go v σ' ⟨hd,h2,h3,hlen,true,hg1, ?_⟩ hk
     rw[if_pos rfl]
     split
     .rename_i f args ts hop;exact absurd hop (hno f args ts)
     .exact⟨hhk,hz,ho1,hf⟩
    cases hr:xL P o.dst e σ o.op with
    |all f=>rw[hr]at hna;cases hna
    |any l=>rw[hr]at hna;cases hna
    |fail=>rw[hr]at hv;exact hv.elim
    |ok v=>rw[hr]at hv;exact done v σ (fun _=>rfl) (fun _=>KeepN.refl) (A2 _) (.inl ⟨hr,rfl⟩) hv
    |need p v=>rw[hr]at hv;exact done v σ (fun _=>rfl) (fun _=>KeepN.refl) (A2 _) (.inr (.inl ⟨p,hr,hv.1,rfl⟩)) hv.2
    |st v σ'=>
     rw[hr]at hv hso
     have h3:=hst (by rw[hr];rfl)
     exact done v σ' (fun h=>by omega) hso.2 hso.1 (.inr (.inr ⟨h3,.inl hr⟩)) hv
    |needst p v σ'=>
     rw[hr]at hv hso
     have h3:=hst (by rw[hr];rfl)
     exact done v σ' (fun h=>by omega) hso.2 hso.1 (.inr (.inr ⟨h3,.inr ⟨p,hr,hv.1⟩⟩)) hv.2
  have no:(∃j want t,o.guard=some (j,want)/\gdst ops j=some t/\((∃b,e t= .bool b/\b≠want)∨e t= .tup []))->vput nt o.dst (.tup []) (vtr P c nt n0 ops q (i+1) os K) e σ->
    ∃tr,zt3 P c nt n0 ops q i (o::os) e σ tr/\K (fE (fun _=>true) i (o::os) tr e) (fS (fun _=>true) q i (o::os) tr σ):=by
   rintro⟨j,want,t,hg,h1,h2⟩ hv
   obtain⟨hd,hk⟩:=yj6 hv
   refine go (.tup []) σ ⟨hd,fun _=>rfl,fun _=>KeepN.refl,A2 _,false, ?_, ?_⟩ hk
   .rw[hg]
    rcases h2 with ⟨b,h2,h3⟩|h2
    .exact⟨t,h1,.inl ⟨b,h2,by simp[h3]⟩⟩
    .exact⟨t,h1,.inr ⟨h2,rfl⟩⟩
   .rw[if_neg (by simp)];exact⟨rfl,rfl⟩
  unfold vtr vgd at h
  split at h
  .rename_i hg;exact yes (by rw[hg];trivial) h
  .rename_i j want hg
   split at h
   .rename_i t ht
    unfold vgrd at h
    split at h
    .rename_i b hb
     by_cases hbw:b=want
     .exact yes (by rw[hg];exact⟨t,b,ht,hb,hbw⟩) (h.1 hbw)
     .exact no ⟨j,want,t,hg,ht,.inl ⟨b,hb,hbw⟩⟩ (h.2 hbw)
    .rename_i hb
     exact no ⟨j,want,t,hg,ht,.inr hb⟩ h
    .exact h.elim
   .exact h.elim
def wtr (P:Program) (c:Ctx) (nt:Nat) (n0:Kp) (ops:List Oper) (q:List (Nat×Nat)) (i:Nat) (l:List Oper) (K:KT) (_:Fx ops) (_:Fx l) (_:Fx K) (e:Env) (σ:St):Prop:=vtr P c nt n0 ops q i l K e σ
def wtop (P:Program) (c:Ctx) (nt:Nat) (n0:Kp) (k:Nat) (d:Option Tmp) (op:Op) (K:KT) (_:Fx op) (_:Fx K) (e:Env) (σ:St):Prop:=vtop P c nt n0 k d op K e σ
def wVD (P:Program) (c:Ctx) (n0:Kp) (k:Nat) (fv:V) (as:List V) (σ:St) (K:V->St->Prop) (_:Fx K):Prop:=
 ∃v σ',(if k=0 then∀s,VC P c fv as s (fun r s'=>r=v/\s'=s)else if k=1 then∀s,n0.of s=n0.of σ->VC P c fv as s (fun r s'=>r=v/\s'=s)else VC P c fv as σ (fun r s=>r=v/\s=σ'))/\(k<3->σ'=σ)/\(k=3->KeepN n0 σ σ')/\σ.length<=σ'.length/\K v σ'
theorem yU {id:Nat} {ops:List Oper} {Q:QT} {e:Env} {σ:St} (q:List (Nat×Nat)) (n0:Nat) (hn:σ.length=n0) (hm:P.follows .mixedOrders=true) (hd:(zy4 ops q&&zc3 ops)=true) (h:wtr P c nt (Kp.pre n0) ops q 0 ops (Q .normal) fx fx fx e σ):wVW P c nt (.region id ops.toArray true) Q fx fx e σ:=by
 simp only[A4]at hd
 obtain⟨tr,ht,hK⟩:=zo3 ops 0 (Q .normal) e σ h
 exact VW.draw (n0:=Kp.pre n0) hm (Cg hn.symm) hd.1 hd.2 ht hK
def xs0 (q:List (Nat×Nat)) (i:Nat) (op:Op):Nat:=match q.find? (·.1==i)with|some p=>min p.2 4|none=>zd3 op
variable {e:Env} {σ:St} {K:KT} {Q:QT} {d:Option Tmp} {k:Nat}
@[go_sem] theorem wtr_nil {ops:List Oper} {q:List (Nat×Nat)} {i:Nat}:wtr P c nt n0 ops q i [] K fx fx fx e σ=K e σ:=id rfl
@[go_sem] theorem wtr_cons {ops rest:List Oper} {q:List (Nat×Nat)} {i:Nat} {op:Op} {ty:TypeId} {pos:String} {aft:Array Edge}:wtr P c nt n0 ops q i (⟨d,op,ty,pos,aft,none⟩::rest) K fx fx fx e σ=
  wtop P c nt n0 (xs0 q i op) d op (wtr P c nt n0 ops q (i+1) rest K fx fx fx) fx fx e σ:=id rfl
@[go_sem] theorem wtr_guard {ops rest:List Oper} {q:List (Nat×Nat)} {i:Nat} {op:Op} {ty:TypeId} {pos:String} {aft:Array Edge} {j:Nat} {want:Bool}:wtr P c nt n0 ops q i (⟨d,op,ty,pos,aft,some (j,want)⟩::rest) K fx fx fx e σ=
  wgdo (wdst ops fx j) want e (wtop P c nt n0 (xs0 q i op) d op (wtr P c nt n0 ops q (i+1) rest K fx fx fx) fx fx e σ) (wput nt d (.tup []) (wtr P c nt n0 ops q (i+1) rest K fx fx fx) fx e σ) fx fx:=id rfl
attribute [go_sem] xs0 imm
theorem zt0 (op:Op) (h:zd3 op<3):isSt (evOp P e σ op)=false:=by
 cases op with
 |call cl=>
  obtain⟨cal,⟨args⟩,ts⟩:=cl
  cases cal with
  |builtin b=>
   cases b
   case len=>simp only[evOp];split<;>first|rfl|(rename_i heq;simp at heq;done)|(unfold zV6;(repeat' split)<;>rfl)
   case min=>simp only[evOp];unfold zz3;(repeat' split)<;>rfl
   case max=>simp only[evOp];unfold zz3;(repeat' split)<;>rfl
   all_goals first|(simp[zd3]at h;done)|rfl
  |_=>rfl
 |slice t x lo hi mx=>cases lo<;>cases hi<;>cases mx<;>simp only[evOp]<;>first|rfl|(unfold zm2;(repeat' split)<;>rfl)|(unfold zp5;(repeat' split)<;>rfl)
 |move x=>rfl
 |assign x=>rfl
 |pick x y z=>simp only[evOp];unfold zF6;(repeat' split)<;>rfl
 |build t ps=>simp only[evOp];unfold zw2;(repeat' split)<;>rfl
 |buildSlice t n ps=>simp only[evOp];unfold za7;(repeat' split)<;>rfl
 |nilCheck x=>simp only[evOp];unfold zV7;(repeat' split)<;>rfl
 |binOp o t x y t'=>simp only[evOp];unfold zs4 yG8 zp4 zr5 zL8 zM9;(repeat' split)<;>rfl
 |unOp o t x=>simp only[evOp];unfold evUn;(repeat' split)<;>rfl
 |convert t t' x=>simp only[evOp];unfold zB7;(repeat' split)<;>rfl
 |fieldAddr t x f=>simp only[evOp];unfold ze3;(repeat' split)<;>rfl
 |field t x f=>simp only[evOp];unfold zw4;(repeat' split)<;>rfl
 |indexAddr t x i=>simp only[evOp];unfold zi0;(repeat' split)<;>rfl
 |index t x i=>simp only[evOp];unfold zO0;(repeat' split)<;>rfl
 |extract x i=>simp only[evOp];unfold zl4;(repeat' split)<;>rfl
 |makeFunc fn l m=>simp only[evOp];unfold zF5;(repeat' split)<;>rfl
 |load t x=>simp only[evOp];unfold zg9;(repeat' split)<;>first|rfl|(unfold zk5;(repeat' split)<;>rfl)
 |_=>first|(simp[zd3]at h;done)|rfl
theorem ze6 (op:Op) (h: ∀o t x y t',op≠ .binOp o t x y t'):zW0 (evOp P e σ op)=false:=by
 cases op with
 |call cl=>
  obtain⟨cal,⟨args⟩,ts⟩:=cl
  cases cal with
  |builtin b=>
   cases b
   case len=>simp only[evOp];split<;>first|rfl|(rename_i heq;simp at heq;done)|(unfold zV6;(repeat' split)<;>rfl)
   case append=>simp only[evOp];split<;>first|rfl|(rename_i heq;simp at heq;done)|(unfold zg8;(repeat' split)<;>rfl)
   case clear=>simp only[evOp];split<;>first|rfl|(rename_i heq;simp at heq;done)|(unfold zs2;(repeat' split)<;>rfl)
   case delete=>simp only[evOp];split<;>first|rfl|(rename_i heq;simp at heq;done)|(unfold zp3;(repeat' split)<;>rfl)
   case min=>simp only[evOp];unfold zz3;(repeat' split)<;>rfl
   case max=>simp only[evOp];unfold zz3;(repeat' split)<;>rfl
   all_goals rfl
  |_=>rfl
 |slice t x lo hi mx=>cases lo<;>cases hi<;>cases mx<;>simp only[evOp]<;>first|rfl|(unfold zm2;(repeat' split)<;>rfl)|(unfold zp5;(repeat' split)<;>rfl)
 |pick x y z=>simp only[evOp];unfold zF6;(repeat' split)<;>rfl
 |alloc t=>simp only[evOp];unfold zk4;(repeat' split)<;>rfl
 |box t x=>simp only[evOp];unfold zN9;(repeat' split)<;>rfl
 |store t x y=>simp only[evOp];unfold zs5;(repeat' split)<;>rfl
 |makeSlice t l m=>simp only[evOp];unfold zB9;(repeat' split)<;>rfl
 |build t ps=>simp only[evOp];unfold zw2;(repeat' split)<;>rfl
 |buildSlice t n ps=>simp only[evOp];unfold za7;(repeat' split)<;>rfl
 |nilCheck x=>simp only[evOp];unfold zV7;(repeat' split)<;>rfl
 |binOp o t x y t'=>exact absurd rfl (h o t x y t')
 |unOp o t x=>simp only[evOp];unfold evUn;(repeat' split)<;>rfl
 |convert t t' x=>simp only[evOp];unfold zB7;(repeat' split)<;>rfl
 |fieldAddr t x f=>simp only[evOp];unfold ze3;(repeat' split)<;>rfl
 |field t x f=>simp only[evOp];unfold zw4;(repeat' split)<;>rfl
 |indexAddr t x i=>simp only[evOp];unfold zi0;(repeat' split)<;>rfl
 |index t x i=>simp only[evOp];unfold zO0;(repeat' split)<;>rfl
 |extract x i=>simp only[evOp];unfold zl4;(repeat' split)<;>rfl
 |makeFunc fn l m=>simp only[evOp];unfold zF5;(repeat' split)<;>rfl
 |load t x=>simp only[evOp];unfold zg9;(repeat' split)<;>first|rfl|(unfold zk5;(repeat' split)<;>rfl)
 |makeMap t r=>simp only[evOp];unfold zl5;(repeat' split)<;>rfl
 |lookup t x k ok=>simp only[evOp];unfold xO;(repeat' split)<;>rfl
 |mapUpdate t x k v=>simp only[evOp];unfold xK;(repeat' split)<;>rfl
 |insert t x k v=>simp only[evOp];unfold xK;(repeat' split)<;>rfl
 |range t x=>simp only[evOp];unfold zw5;(repeat' split)<;>rfl
 |entry x=>simp only[evOp];unfold zh9;(repeat' split)<;>rfl
 |makeInterface t x=>simp only[evOp];unfold zV5;(repeat' split)<;>rfl
 |mapEntry t x k=>simp only[evOp];unfold xQ;(repeat' split)<;>rfl
 |entryStore t x k v=>simp only[evOp];unfold xI;(repeat' split)<;>rfl
 |next x b=>cases b<;>simp only[evOp]<;>first|rfl|(unfold zh0;(repeat' split)<;>first|rfl|contradiction)
 |_=>rfl
theorem zq1 {r:R} (h:isSt r=false):stOk n0 k σ r:=by
 cases r<;>first|trivial|cases h
theorem zh8 {op:Op} (hA: ∀o t x y t',op≠ .binOp o t x y t') (hL: ∀e σ,wV P e σ op=evOp P e σ op) (h:zd3 op=0) (hc: ∀f as ts,op≠ .call ⟨.value f,as,ts⟩):wtop P c nt n0 0 d op K fx fx e σ=wop P c nt d op K fx fx e σ:=by
 show vtop P c nt n0 0 d op K e σ=vop P c nt d op K e σ
 have hh:hok P d e op:= .inr hL
 unfold vtop vop
 split
 .exact absurd rfl (hc _ _ _)
 .have:=zt0 (P:=P) (e:=e) (σ:=σ) op (by omega)
  split
  .exact absurd rfl (hc _ _ _)
  .have h2:stOk n0 0 σ (evOp P e σ op):=zq1 this
   rw[zn8 hh]
   simp[this,h,h2,hh,ze6 op hA]
theorem zU3 {op:Op} (hA: ∀o t x y t',op≠ .binOp o t x y t') (h:zd3 op=0) (hc: ∀f as ts,op≠ .call ⟨.value f,as,ts⟩):wtop P c nt n0 0 d op K fx fx e σ=zH8 (hok P d e op) (wop P c nt d op K fx fx e σ) fx:=by
 show vtop P c nt n0 0 d op K e σ=(hok P d e op/\vop P c nt d op K e σ)
 by_cases hh:hok P d e op
 .unfold vtop vop
  split
  .exact absurd rfl (hc _ _ _)
  .have:=zt0 (P:=P) (e:=e) (σ:=σ) op (by omega)
   split
   .exact absurd rfl (hc _ _ _)
   .have h3:stOk n0 0 σ (evOp P e σ op):=zq1 this
    rw[zn8 hh]
    simp[this,h,h3,hh,ze6 op hA]
 .unfold vtop
  split
  .exact absurd rfl (hc _ _ _)
  .simp[hh]
@[go_sem] theorem hok_t {op:Op} (h:zd1 e d=false):hok P d e op=True:=by simp[hok,h]
theorem zO6 {t:TypeId} {x:Operand}:hok P d e (.load t x):= .inr fun _ _=>rfl
theorem yT6 {t:TypeId} {x:Operand}:wtop P c nt n0 1 d (.load t x) K fx fx e σ=zH8 (imm n0 (zF e x)=true) (wop P c nt d (.load t x) K fx fx e σ) fx:=by
 show vtop P c nt n0 1 d (.load t x) K e σ=(_/\vop P c nt d (.load t x) K e σ)
 have:=zt0 (P:=P) (e:=e) (σ:=σ) (.load t x) (show 1<3 by omega)
 have h2:stOk n0 1 σ (evOp P e σ (.load t x)):=zq1 this
 have hA:=ze6 (P:=P) (e:=e) (σ:=σ) (.load t x) (fun _ _ _ _ _ h=>by cases h)
 simp only[vtop,vop,this,h2,zn8 zO6,hA]
 refine propext ⟨fun h=> ?_,fun h=> ?_⟩
 .obtain⟨_,_,_,h1,_,_,h3⟩:=h
  rcases h1 trivial with ⟨t',x',hop,him⟩|⟨hno,_⟩
  .cases hop
   exact⟨him,h3⟩
  .exact absurd rfl (hno t x)
 .exact⟨fun _=>zO6,trivial,fun q=>by simp at q,fun _=> .inl ⟨t,x,rfl,h.1⟩,fun q=>by simp at q,trivial,h.2⟩
theorem yT7 {t:TypeId} {x:Operand}:wtop P c nt n0 2 d (.load t x) K fx fx e σ=wop P c nt d (.load t x) K fx fx e σ:=by
 show vtop P c nt n0 2 d (.load t x) K e σ=vop P c nt d (.load t x) K e σ
 have:=zt0 (P:=P) (e:=e) (σ:=σ) (.load t x) (show 1<3 by omega)
 have h2:stOk n0 2 σ (evOp P e σ (.load t x)):=zq1 this
 have hA:=ze6 (P:=P) (e:=e) (σ:=σ) (.load t x) (fun _ _ _ _ _ h=>by cases h)
 simp[vtop,vop,this,h2,zn8 zO6,zO6,hA]
theorem zT9 {op:Op}:stOk n0 4 σ (evOp P e σ op):=by
 by_cases h:zd3 op<3
 .exact zq1 (zt0 op h)
 .cases op with
  |alloc t=>simp only[evOp];unfold zk4;(repeat' split)<;>first|trivial|exact⟨by simp,fun h=>by omega⟩
  |box t x=>simp only[evOp];unfold zN9;(repeat' split)<;>first|trivial|exact⟨by simp,fun h=>by omega⟩
  |store t x y=>simp only[evOp];unfold zs5;(repeat' split)<;>first|trivial|exact⟨by simp,fun h=>by omega⟩
  |makeSlice t l m=>simp only[evOp];unfold zB9;(repeat' split)<;>first|trivial|exact⟨by simp,fun h=>by omega⟩
  |makeMap t r=>simp only[evOp];unfold zl5;(repeat' split)<;>first|trivial|exact⟨by simp,fun h=>by omega⟩
  |lookup t x k ok=>simp only[evOp];unfold xO;(repeat' split)<;>trivial
  |mapUpdate t x k v=>simp only[evOp];unfold xK;(repeat' split)<;>first|trivial|exact⟨by simp,fun h=>by omega⟩
  |insert t x k v=>simp only[evOp];unfold xK;(repeat' split)<;>first|trivial|exact⟨by simp,fun h=>by omega⟩
  |range t x=>simp only[evOp];unfold zw5;(repeat' split)<;>first|trivial|exact⟨by simp,fun h=>by omega⟩
  |entry x=>simp only[evOp];unfold zh9;(repeat' split)<;>trivial
  |makeInterface t x=>simp only[evOp];unfold zV5;(repeat' split)<;>trivial
  |mapEntry t x k=>simp only[evOp];unfold xQ;(repeat' split)<;>first|trivial|exact⟨by simp,fun h=>by omega⟩
  |entryStore t x s v=>simp only[evOp];unfold xI;(repeat' split)<;>first|trivial|exact⟨by simp,fun h=>by omega⟩
  |next x b=>cases b<;>simp only[evOp]<;>first|trivial|(unfold zh0;(repeat' split)<;>first|trivial|exact⟨by simp,fun h=>by omega⟩)
  |call cl=>
   obtain⟨cal,⟨args⟩,ts⟩:=cl
   cases cal with
   |builtin b=>
    cases b
    case append=>simp only[evOp];split<;>first|trivial|(rename_i heq;simp at heq;done)|(unfold zg8;(repeat' split)<;>first|trivial|exact⟨by simp,fun h=>by omega⟩)
    case clear=>simp only[evOp];split<;>first|trivial|(rename_i heq;simp at heq;done)|(unfold zs2;(repeat' split)<;>first|trivial|exact⟨by simp,fun h=>by omega⟩)
    case delete=>simp only[evOp];split<;>first|trivial|(rename_i heq;simp at heq;done)|(unfold zp3;(repeat' split)<;>first|trivial|exact⟨by simp,fun h=>by omega⟩)
    all_goals first|(simp[zd3]at h;done)|trivial
   |_=>trivial
  |slice t x lo hi mx=>simp[zd3]at h
  |_=>first|(simp[zd3]at h;done)|trivial
theorem zV8 (op:Op) (hA: ∀o t x y t',op≠ .binOp o t x y t') (hN: ∀x b,op≠ .next x b):zW0 (wV P e σ op)=false:=by
 have h:=ze6 (P:=P) (e:=e) (σ:=σ) op hA
 cases op with
 |buildSlice t n ps=>simp only[wV];unfold wT;(repeat' split)<;>rfl
 |makeSlice t l m=>simp only[wV];unfold zs3;(repeat' split)<;>rfl
 |convert t t' x=>simp only[wV];unfold zw3;(repeat' split)<;>rfl
 |slice t x lo hi mx=>
  cases lo with
  |none=>exact h
  |some lo=>cases hi with
   |some _=>exact h
   |none=>cases mx with
    |some _=>exact h
    |none=>simp only[wV];unfold zp6;(repeat' split)<;>rfl
 |next x b=>exact absurd rfl (hN x b)
 |call cl=>
  obtain⟨cal,⟨args⟩,ts⟩:=cl
  cases cal with
  |builtin b=>
   cases b
   case append=>simp only[wV];split<;>first|exact h|(rename_i heq;simp at heq;done)|(unfold zd9;(repeat' split)<;>rfl)
   all_goals exact h
  |_=>exact h
 |_=>exact h
theorem yS2 {op:Op}:stOk n0 4 σ (wV P e σ op):=by
 have h:stOk n0 4 σ (evOp P e σ op):=zT9
 cases op with
 |buildSlice t n ps=>simp only[wV];unfold wT;(repeat' split)<;>first|trivial|exact⟨by simp,fun h=>by omega⟩
 |makeSlice t l m=>simp only[wV];unfold zs3;(repeat' split)<;>first|trivial|exact⟨by simp,fun h=>by omega⟩
 |convert t t' x=>simp only[wV];unfold zw3;(repeat' split)<;>first|trivial|exact⟨by simp,fun h=>by omega⟩
 |slice t x lo hi mx=>
  cases lo with
  |none=>exact h
  |some lo=>cases hi with
   |some _=>exact h
   |none=>cases mx with
    |some _=>exact h
    |none=>simp only[wV];unfold zp6;(repeat' split)<;>first|trivial|exact⟨by simp,fun h=>by omega⟩
 |next x b=>cases b<;>simp only[wV]<;>first|exact h|(unfold zh0;(repeat' split)<;>first|trivial|exact⟨by simp,fun h=>by omega⟩)
 |call cl=>
  obtain⟨cal,⟨args⟩,ts⟩:=cl
  cases cal with
  |builtin b=>
   cases b
   case append=>simp only[wV];split<;>first|exact h|(rename_i heq;simp at heq;done)|(unfold zd9;(repeat' split)<;>first|trivial|exact⟨by simp,fun h=>by omega⟩)
   all_goals exact h
  |_=>exact h
 |_=>exact h
theorem zU4 {op:Op} (hA: ∀o t x y t',op≠ .binOp o t x y t') (hN: ∀x b,op≠ .next x b) (hc: ∀f as ts,op≠ .call ⟨.value f,as,ts⟩):wtop P c nt n0 4 d op K fx fx e σ=wop P c nt d op K fx fx e σ:=by
 show vtop P c nt n0 4 d op K e σ=vop P c nt d op K e σ
 have h1:zW0 (xL P d e σ op)=false:=by
  unfold xL
  split
  .exact zV8 op hA hN
  .exact ze6 op hA
 have h2:stOk n0 4 σ (xL P d e σ op):=by
  unfold xL
  split
  .exact yS2
  .exact zT9
 unfold vtop vop
 split
 .exact absurd rfl (hc _ _ _)
 .split
  .exact absurd rfl (hc _ _ _)
  .refine propext ⟨fun q=>q.2.2.2.2.2.2,fun q=>⟨fun q=>by omega,h1,fun q=>by simp at q,fun q=>by simp at q,fun _=>by omega,h2,q⟩⟩
theorem zR1 {op:Op} (hA: ∀o t x y t',op≠ .binOp o t x y t') (hN: ∀x b,op≠ .next x b) (_: ∀e σ,wV P e σ op=evOp P e σ op) (hc: ∀f as ts,op≠ .call ⟨.value f,as,ts⟩):wtop P c nt n0 4 d op K fx fx e σ=wop P c nt d op K fx fx e σ:=zU4 hA hN hc
theorem zy2 {op:Op} (hA: ∀o t x y t',op≠ .binOp o t x y t') (hL: ∀e σ,wV P e σ op=evOp P e σ op) (h2:stOk n0 3 σ (evOp P e σ op)) (hc: ∀f as ts,op≠ .call ⟨.value f,as,ts⟩):wtop P c nt n0 3 d op K fx fx e σ=wop P c nt d op K fx fx e σ:=by
 show vtop P c nt n0 3 d op K e σ=vop P c nt d op K e σ
 have hh:hok P d e op:= .inr hL
 unfold vtop vop
 split
 .exact absurd rfl (hc _ _ _)
 .split
  .exact absurd rfl (hc _ _ _)
  .rw[zn8 hh];simp[h2,hh,ze6 op hA]
def Kp.out (k:Kp) (id:Nat):Bool:=(decide (id<k.x)&&k.ob.isNone)||decide (k.n<=id)
@[go_sem] theorem Kp.out_pre {n id:Nat}:(Kp.mk 0 n [] none).out id=decide (n<=id):=by simp[Kp.out]
@[go_sem] theorem Kp.out_but {x n id:Nat}:(Kp.mk (x+1) n [] none).out id=(decide (id<x+1)||decide (n<=id)):=by simp[Kp.out]
def zb2 (n0:Kp):V->Bool
 | .ptr id _=>n0.out id
 | .lsp id _ _ _ _=>n0.out id
 |_=>false
attribute [go_sem] zb2
@[go_sem] theorem wtop_store3 {t:TypeId} {x y:Operand} (h:zb2 n0 (zF e x)=true):wtop P c nt n0 3 d (.store t x y) K fx fx e σ=wop P c nt d (.store t x y) K fx fx e σ:=
 zy2 (fun _ _ _ _ _ h=>by cases h) (fun _ _=>rfl) (by
  simp only[evOp]
  unfold zs5
  split
  .rename_i id off hx
   rw[hx]at h
   have h:n0.out id=true:=h
   simp only[Kp.out,Bt,A4,Option.isNone_iff_eq_none,decide_eq_true_eq]at h
   (repeat' split)<;>first|trivial|exact⟨by simp,fun _=> .inr (Kp.of_set h)⟩
  .rename_i id s n k j hx
   rw[hx]at h
   have h:n0.out id=true:=h
   simp only[Kp.out,Bt,A4,Option.isNone_iff_eq_none,decide_eq_true_eq]at h
   (repeat' split)<;>first|trivial|exact⟨by simp,fun _=> .inr (Kp.of_set h)⟩
  .trivial) (fun _ _ _ h=>by cases h)
@[go_sem] theorem wtop_move {x:Operand}:wtop P c nt n0 0 d (.move x) K fx fx e σ=wop P c nt d (.move x) K fx fx e σ:=zh8 (fun _ _ _ _ _ h=>by cases h) (fun _ _=>rfl) rfl (fun _ _ _ h=>by cases h)
@[go_sem] theorem wtop_assign {x:Operand}:wtop P c nt n0 0 d (.assign x) K fx fx e σ=wop P c nt d (.assign x) K fx fx e σ:=zh8 (fun _ _ _ _ _ h=>by cases h) (fun _ _=>rfl) rfl (fun _ _ _ h=>by cases h)
@[go_sem] theorem wtop_pick {x y z:Operand}:wtop P c nt n0 0 d (.pick x y z) K fx fx e σ=wop P c nt d (.pick x y z) K fx fx e σ:=zh8 (fun _ _ _ _ _ h=>by cases h) (fun _ _=>rfl) rfl (fun _ _ _ h=>by cases h)
@[go_sem] theorem wtop_build {t:TypeId} {l:Array (Nat×Operand)}:wtop P c nt n0 0 d (.build t l) K fx fx e σ=wop P c nt d (.build t l) K fx fx e σ:=zh8 (fun _ _ _ _ _ h=>by cases h) (fun _ _=>rfl) rfl (fun _ _ _ h=>by cases h)
@[go_sem] theorem wtop_buildSlice {t:TypeId} {n:Nat} {l:Array (Nat×Operand)}:wtop P c nt n0 0 d (.buildSlice t n l) K fx fx e σ=zH8 (hok P d e (.buildSlice t n l)) (wop P c nt d (.buildSlice t n l) K fx fx e σ) fx:=zU3 (fun _ _ _ _ _ h=>by cases h) rfl (fun _ _ _ h=>by cases h)
@[go_sem] theorem wtop_nil {x:Operand}:wtop P c nt n0 0 d (.nilCheck x) K fx fx e σ=wop P c nt d (.nilCheck x) K fx fx e σ:=zh8 (fun _ _ _ _ _ h=>by cases h) (fun _ _=>rfl) rfl (fun _ _ _ h=>by cases h)
theorem xk3 {op:BinOp} {t t':TypeId} {x y:Operand}:wtop P c nt n0 0 d (.binOp op t x y t') K fx fx e σ=zH8 (zW0 (wh (zg2 y) (zs4 op (eqK P t) (zF e x)) (wh (zf0 y) (zp4 op (zh4 P t) (zF e x)) (zr5 op (eqK P t) (eqS P t) (zF e x) (zF e y))))=false) (wop P c nt d (.binOp op t x y t') K fx fx e σ) fx:=by
 show vtop P c nt n0 0 d (.binOp op t x y t') K e σ=(zW0 (evOp P e σ (.binOp op t x y t'))=false/\vop P c nt d (.binOp op t x y t') K e σ)
 have hh:hok P d e (.binOp op t x y t'):= .inr fun _ _=>rfl
 have h1:=zt0 (P:=P) (e:=e) (σ:=σ) (.binOp op t x y t') (show 0<3 by omega)
 have h2:stOk n0 0 σ (evOp P e σ (.binOp op t x y t')):=zq1 h1
 simp[vtop,vop,zn8 hh,hh,h1,h2,zd3]
attribute [go_sem] xk3 zW0
@[go_sem] theorem wtop_un {op:UnOp} {t:TypeId} {x:Operand}:wtop P c nt n0 0 d (.unOp op t x) K fx fx e σ=wop P c nt d (.unOp op t x) K fx fx e σ:=zh8 (fun _ _ _ _ _ h=>by cases h) (fun _ _=>rfl) rfl (fun _ _ _ h=>by cases h)
@[go_sem] theorem wtop_conv {t t':TypeId} {x:Operand}:wtop P c nt n0 0 d (.convert t t' x) K fx fx e σ=zH8 (hok P d e (.convert t t' x)) (wop P c nt d (.convert t t' x) K fx fx e σ) fx:=zU3 (fun _ _ _ _ _ h=>by cases h) rfl (fun _ _ _ h=>by cases h)
@[go_sem] theorem wtop_slice {t:TypeId} {x:Operand} {lo hi mx:Option Operand}:wtop P c nt n0 0 d (.slice t x lo hi mx) K fx fx e σ=zH8 (hok P d e (.slice t x lo hi mx)) (wop P c nt d (.slice t x lo hi mx) K fx fx e σ) fx:=zU3 (fun _ _ _ _ _ h=>by cases h) rfl (fun _ _ _ h=>by cases h)
@[go_sem] theorem wtop_fieldAddr {t:TypeId} {x:Operand} {f:Nat}:wtop P c nt n0 0 d (.fieldAddr t x f) K fx fx e σ=wop P c nt d (.fieldAddr t x f) K fx fx e σ:=zh8 (fun _ _ _ _ _ h=>by cases h) (fun _ _=>rfl) rfl (fun _ _ _ h=>by cases h)
@[go_sem] theorem wtop_idxAddr {t:TypeId} {x i:Operand}:wtop P c nt n0 0 d (.indexAddr t x i) K fx fx e σ=wop P c nt d (.indexAddr t x i) K fx fx e σ:=zh8 (fun _ _ _ _ _ h=>by cases h) (fun _ _=>rfl) rfl (fun _ _ _ h=>by cases h)
@[go_sem] theorem wtop_idx {t:TypeId} {x i:Operand}:wtop P c nt n0 0 d (.index t x i) K fx fx e σ=wop P c nt d (.index t x i) K fx fx e σ:=zh8 (fun _ _ _ _ _ h=>by cases h) (fun _ _=>rfl) rfl (fun _ _ _ h=>by cases h)
@[go_sem] theorem wtop_extract {x:Operand} {i:Nat}:wtop P c nt n0 0 d (.extract x i) K fx fx e σ=wop P c nt d (.extract x i) K fx fx e σ:=zh8 (fun _ _ _ _ _ h=>by cases h) (fun _ _=>rfl) rfl (fun _ _ _ h=>by cases h)
@[go_sem] theorem wtop_len {l:Array Operand} {ts:Array TypeId}:wtop P c nt n0 0 d (.call ⟨.builtin .len,l,ts⟩) K fx fx e σ=wop P c nt d (.call ⟨.builtin .len,l,ts⟩) K fx fx e σ:=zh8 (fun _ _ _ _ _ h=>by cases h) (fun _ _=>rfl) rfl (fun _ _ _ h=>by cases h)
@[go_sem] theorem wtop_store {t:TypeId} {x y:Operand}:wtop P c nt n0 4 d (.store t x y) K fx fx e σ=wop P c nt d (.store t x y) K fx fx e σ:=zR1 (fun _ _ _ _ _ h=>by cases h) (fun _ _ h=>by cases h) (fun _ _=>rfl) (fun _ _ _ h=>by cases h)
@[go_sem] theorem wtop_append {l:Array Operand} {ts:Array TypeId}:wtop P c nt n0 4 d (.call ⟨.builtin .append,l,ts⟩) K fx fx e σ=wop P c nt d (.call ⟨.builtin .append,l,ts⟩) K fx fx e σ:=zU4 (fun _ _ _ _ _ h=>by cases h) (fun _ _ h=>by cases h) (fun _ _ _ h=>by cases h)
@[go_sem] theorem wtop_alloc {t:TypeId}:wtop P c nt n0 3 d (.alloc t) K fx fx e σ=wop P c nt d (.alloc t) K fx fx e σ:=zy2 (fun _ _ _ _ _ h=>by cases h) (fun _ _=>rfl) (by
 simp only[evOp];unfold zk4;split<;>first|trivial|exact⟨by simp,fun _=> .inl ⟨_,rfl⟩⟩) (fun _ _ _ h=>by cases h)
attribute [go_sem] yT6 yT7
@[go_sem] theorem wtop_call {f:Operand} {l:List Operand} {ts:Array TypeId}:wtop P c nt n0 k d (.call ⟨.value f,l.toArray,ts⟩) K fx fx e σ=wVD P c n0 k (zF e f) (l.map (zF e)) σ (xA4 nt d K fx e) fx:=id rfl
attribute [go_sem] zd3
theorem zW {f:FuncId} {caps args args':List V} {v:V} {KV:V->St->Prop} (hc:Pure P f args' v) (hb:wS P f=true) (hargs: ∀N,All2 (argS (ren [] N)) args' (args++caps)) (hn:noS v=true) (hk:KV v σ):
  wVD P c n0 0 (.fn f caps) args σ KV fx:=by
 refine⟨v,σ, ?_,fun _=>rfl,fun _=>KeepN.refl,A2 _,hk⟩
 rw[if_pos rfl]
 exact fun s=>zD (P:=P) (c:=c) (KV:=fun r s'=>r=v/\s'=s) hc hb (hargs _) hn ⟨rfl,rfl⟩
theorem zs7 {sel:List Nat} {σ s1:St}:(xE sel σ s1).length=σ.length+(s1.length - sel.length):=by
 simp[xE,xP]
theorem xz4 {f:FuncId} {caps args args':List V} {σin s1:St} {v:V} {KV:V->St->Prop} (hc:VCalls P f args' σin (fun r s=>r=v/\s=s1)) (hb:wS P f=true) (sel:List Nat) (hnd:sel.Nodup) (hlen:σin.length=sel.length)
  (hob: ∀(i j:Nat) (o:Ob),sel[i]? =some j->σin[i]? =some o->σ[j]? =some (yN (ren sel σ.length) o)) (hargs:All2 (argS (ren sel σ.length)) args' (args++caps))
  (hk:KV (renS (ren sel σ.length) v) (xE sel σ s1)):wVD P c n0 4 (.fn f caps) args σ KV fx:=by
 refine⟨_,_, ?_,fun h=>by omega,fun h=>by omega,by rw[zs7];omega,hk⟩
 rw[if_neg (by decide),if_neg (by decide)]
 refine VC.of hc hb sel hnd hlen hob hargs ?_
 rintro r s ⟨rfl,rfl⟩ _
 exact⟨rfl,rfl⟩
theorem yL4 {f:FuncId} {caps args args':List V} {σin s1:St} {v:V} {KV:V->St->Prop} (hc:VCalls P f args' σin (fun r s=>r=v/\s=s1)) (hb:wS P f=true) (sel:List Nat) (hnd:sel.Nodup) (hlen:σin.length=sel.length)
  (hob: ∀(i j:Nat) (o:Ob),sel[i]? =some j->σin[i]? =some o->σ[j]? =some (yN (ren sel σ.length) o)) (hargs:All2 (argS (ren sel σ.length)) args' (args++caps)) (hkeep:KeepN n0 σ (xE sel σ s1))
  (hk:KV (renS (ren sel σ.length) v) (xE sel σ s1)):wVD P c n0 3 (.fn f caps) args σ KV fx:=by
 refine⟨_,_, ?_,fun h=>by omega,fun _=>hkeep,by rw[zs7];omega,hk⟩
 rw[if_neg (by decide),if_neg (by decide)]
 refine VC.of hc hb sel hnd hlen hob hargs ?_
 rintro r s ⟨rfl,rfl⟩ _
 exact⟨rfl,rfl⟩
theorem xz5 {f:FuncId} {caps args args':List V} {v:V} {KV:V->St->Prop} (hc:Pure P f args' v) (hb:wS P f=true) (hf: ∀s,n0.of s=n0.of σ-> ∃as1 σ1,Frz (args++caps) s as1 σ1/\All2 (argS (ren [] σ1.length)) args' as1)
  (hfl:yD9 v=true) (hk:KV v σ):wVD P c n0 1 (.fn f caps) args σ KV fx:=by
 refine⟨v,σ, ?_,fun _=>rfl,fun h=>by omega,A2 _,hk⟩
 rw[if_neg (by decide),if_pos rfl]
 intro s hs
 obtain⟨as1,σ1,h1,h2⟩:=hf s hs
 exact VC.view hc hb h1 h2 (fun r s h=>⟨h.2,by rw[h.1];exact hfl⟩) fun r h=>⟨h.1,rfl⟩
end
def At (n0:Nat) (keep:List Nat) (vs:List V) (s:St) (e:Env) (σ:St):Prop:=
 ∃pick,Picks n0 pick σ s/\All2 (argS (ren pick σ.length)) vs (keep.map e)
def Next {S:Type} (p:S->Prop) (_:Fx p):Prop:= ∃s,p s
theorem zI {S:Type} {p:S->Prop} (s:S) (h:p s):Next p fx:=⟨s,h⟩
section
variable {P:Program} {c:Ctx} {nt:Nat} {e:Env} {σ:St} {a:Act} {w:World} {L:Nat->Nat} {β:List Value} {Q:QT} {n0:Nat}
theorem zA {code:Code} (h:zr8 P c nt code Q fx fx e σ):wVW P c nt code Q fx fx e σ:=zf4 code Q e σ h
theorem zQ9 {x y:Code} {K:KT} (h:wVW P c nt x (zX4 K Q fx fx) fx fx e σ) (hy: ∀e' σ',K e' σ'->wVW P c nt y Q fx fx e' σ'):wVW P c nt (.seq x y) Q fx fx e σ:=by
 intro a w L β hs
 refine wp_seq (wp_mono (h a w L β hs) fun ex a' w' q=> ?_)
 cases ex with
 |normal=>obtain⟨e',σ',L',β',hs',hq⟩:=q;exact hy e' σ' hq a' w' L' β' hs'
 |exit id=>exact q
 |goto l=>exact q
 |ret=>exact q
 |panic ch=>exact q
 |outgrown=>exact q
theorem zS {x y:Code} (h:wVW P c nt x (zX4 (wVW P c nt y Q fx fx) Q fx fx) fx fx e σ):wVW P c nt (.seq x y) Q fx fx e σ:=zQ9 h fun _ _ h=>h
theorem zg0 {id:Nat} {b:Code} (h:wVW P c nt b (wblk id Q fx) fx fx e σ):wVW P c nt (.block id b) Q fx fx e σ:=by
 intro a w L β hs
 refine wp_block (wp_mono (h a w L β hs) fun ex a' w' q=> ?_)
 cases ex with
 |exit id'=>
  obtain⟨e',σ',L',β',hs',hq⟩:=q
  change (if id'=id then Q .normal e' σ' else Q (.exit id') e' σ')at hq
  change (if id'=id then Lift c nt Q .normal a' w' else Lift c nt Q (.exit id') a' w')
  split
  .rename_i hid
   rw[if_pos hid]at hq
   exact⟨e',σ',L',β',hs',hq⟩
  .rename_i hid
   rw[if_neg hid]at hq
   exact⟨e',σ',L',β',hs',hq⟩
 |normal=>exact q
 |goto l=>exact q
 |ret=>exact q
 |panic ch=>exact q
 |outgrown=>exact q
theorem zQ8 {b:Bool} {x:Operand} {t f:Code} (hx:zF e x= .bool b) (ht:b=true->wVW P c nt t Q fx fx e σ) (hf:b=false->wVW P c nt f Q fx fx e σ):wVW P c nt (.cond x t f) Q fx fx e σ:=by
 intro a w L β hs
 have hv:=hs.eval x
 rw[hx]at hv
 exact wp_cond_split (zc8 hv) (fun h=>ht h a w L β hs) (fun h=>hf h a w L β hs)
theorem xT2 {y:Code} {keep:List Nat} {vs:List V} {s:St} (hn:c.σ0.length=n0) (hc:c.β0.length=c.σ0.length) (hk:At n0 keep vs s e σ) (hy:wVW P c nt y Q fx fx (envK (keep.zip vs)) s):wVW P c nt y Q fx fx e σ:=by
 intro a w L β hs
 subst hn
 obtain⟨pick,hp,hall⟩:=hk
 obtain⟨vs',s',β',⟨rfl,rfl⟩,_,hs'⟩:=zM8 (Inv:=fun vs' s' _=>vs'=vs/\s'=s) (m:=0) hs hc ⟨vs,s,pick,hp,hall,rfl,rfl⟩
 exact hy a w L β' hs'
theorem zc0 {x y:Code} {S:Type} (keep:List Nat) (vals:S->List V) (sto:S->St) (I:S->Prop) (hn:c.σ0.length=n0) (hc:c.β0.length=c.σ0.length)
  (hx:wVW P c nt x (zX4 (fun e' σ'=>Next (fun s=>I s/\At n0 keep (vals s) (sto s) e' σ') fx) Q fx fx) fx fx e σ)
  (hy: ∀s,I s->wVW P c nt y Q fx fx (envK (keep.zip (vals s))) (sto s)):wVW P c nt (.seq x y) Q fx fx e σ:=
 zQ9 hx fun _ _ ⟨s,hI,hat⟩=>xT2 hn hc hat (hy s hI)
theorem zL {body:Code} {S:Type} (keep:List Nat) (vals:S->List V) (sto:S->St) (meas:S->Nat) (I:S->Prop) (hn:c.σ0.length=n0) (hc:c.β0.length=c.σ0.length)
  (s0:S) (hI:I s0) (h0:At n0 keep (vals s0) (sto s0) e σ)
  (hr: ∀s,I s->wVW P c nt body (zX4 (fun e' σ'=>Next (fun s'=>meas s'<meas s/\I s'/\At n0 keep (vals s') (sto s') e' σ') fx) Q fx fx) fx fx (envK (keep.zip (vals s))) (sto s)):wVW P c nt (.loop body) Q fx fx e σ:=by
 subst hn
 intro a w L β hs
 refine zX3 (fun m a w=> ∃s L β,m=meas s/\I s/\Sim c nt (envK (keep.zip (vals s))) (sto s) a w L β) (meas s0) ?_ ?_
 .obtain⟨pick,hp,hall⟩:=h0
  obtain⟨vs',s',β',⟨rfl,rfl⟩,_,hs'⟩:=zM8 (Inv:=fun vs' s' _=>vs'=vals s0/\s'=sto s0) (m:=0) hs hc ⟨_,_,pick,hp,hall,rfl,rfl⟩
  exact⟨s0,L,β',rfl,hI,hs'⟩
 .rintro m a w ⟨s,L,β,rfl,hIs,hs⟩
  refine wp_mono (hr s hIs a w L β hs) fun x a' w' q=> ?_
  cases x with
  |normal=>
   obtain⟨e',σ',L',β',hs',s',hlt,hI',pick,hp,hall⟩:=q
   obtain⟨vs',s2,β2,⟨rfl,rfl⟩,_,hs2⟩:=zM8 (Inv:=fun vs' s2 _=>vs'=vals s'/\s2=sto s') (m:=0) hs' hc ⟨_,_,pick,hp,hall,rfl,rfl⟩
   exact⟨meas s',hlt,s',L',β2,rfl,hI',hs2⟩
  |exit id=>exact q
  |goto l=>exact q
  |ret=>exact q
  |panic ch=>exact q
  |outgrown=>exact q
theorem zR {ρ:Nat->Nat} {l m:List V} (h:l=m) (hn:l.all noS=true):All2 (argS ρ) l m:=by subst h;exact zH hn
theorem wU {n N:Nat}: ∀{l:List V},l.all (ltS n)=true->All2 (argS (ren (List.range n) N)) l l
 | [],_=>trivial
 |v::l,h=>by
  simp only[Am,A4]at h
  exact⟨zo4 h.1,wU h.2⟩
theorem zG {n N:Nat} {l m:List V} (h:l=m) (hn:l.all (ltS n)=true):All2 (argS (ren (List.range n) N)) l m:=by subst h;exact wU hn
theorem at_0 {keep:List Nat} {vs:List V} {ρN:Nat} (hN:σ.length=ρN) (h:All2 (argS (ren [] ρN)) vs (keep.map e)):At 0 keep vs [] e σ:=by
 subst hN
 exact⟨[],⟨rfl,D5,fun i j o h=>by simp at h,fun i h=>absurd h (Bg i)⟩,h⟩
theorem at_n (k:Nat) {keep:List Nat} {vs:List V} {s:St} (hs:σ.take k=s) (hk:s.length=k) (hok:s.all (ltOb k)=true) (hn:n0<=k) (h:All2 (argS (ren (List.range k) σ.length)) vs (keep.map e)):At n0 keep vs s e σ:=by
 subst hs
 have h1:σ.take k++σ.drop k=σ:=Bp k σ
 have hp:=yq4 (n0:=n0) (s:=σ.take k) (loc:=σ.drop k) (by rw[hk];exact hok) (by rw[hk];exact hn)
 rw[h1,hk]at hp
 exact⟨_,hp,h⟩
theorem zI3 (pick:List Nat) {keep:List Nat} {vs:List V} {s:St} (hnd:pick.Nodup) (hn:n0=0) (hob:All2 (fun o j=>σ[j]? =some (yN (ren pick σ.length) o)) s pick) (h:All2 (argS (ren pick σ.length)) vs (keep.map e)):At n0 keep vs s e σ:=by
 subst hn
 refine⟨pick,⟨hob.length,hnd,fun i j o hi ho=> ?_,fun i h=>absurd h (Bg i)⟩,h⟩
 obtain⟨j',hj',hr⟩:=hob.get i o ho
 rw[hi]at hj'
 cases hj'
 exact hr
theorem VCalls.introV {f:FuncId} {fn:Func} {code:Code} {nt:Nat} {rs:List ResultVar} {args:List V} {R:V->St->Prop} (n0:Nat) (hf:P.funcs[f]? =some fn) (hnt:fn.ntmps=nt) (hrs:fn.results=rs.toArray) (hb:fn.body=some code) (h0:σ.length=n0) (hal:args.length<=nt)
  (h: ∀c:Ctx,c.σ0.length=n0->c.β0.length=c.σ0.length->wVW P c nt code (retQ P rs n0 R) fx fx (envA 0 args) σ):VCalls P f args σ R:=VCalls.introW n0 hf hnt hrs hb h0 hal h
theorem zv7 (t:Nat) {y:Code} (hn:nt<=100000) (hy:wVW P c nt y Q fx fx (upd e (100000+t) (.tup [])) σ):wVW P c nt y Q fx fx e σ:=by
 intro a w L β hs
 refine hy a w L β ⟨hs.mem,hs.size,hs.defs,fun k=> ?_⟩
 simp only[upd]
 split
 .rename_i hk
  subst hk
  refine⟨[], ?_,trivial⟩
  have: ¬(100000+t<a.tmps.size):=by rw[hs.size];omega
  simp[Array.getD,this,undef]
 .exact hs.env k
theorem zp0 (id s:Nat) (rows:List (List V)) {y:Code} (hσ:σ[id]? =some (.lst rows s)) (hp:xW rows=true) (hy:wVW P c nt y Q fx fx (fun t=>frzS id rows (e t)) (zl7 id rows σ)):wVW P c nt y Q fx fx e σ:=by
 intro a w L β hs
 obtain⟨h1,h2,h3,h4⟩:=yW1 hs.mem hσ hp
 exact hy a w _ β ⟨h1,hs.size,hs.defs,fun t=>h4 _ _ (hs.env t)⟩
theorem xz3 {f:FuncId} {caps args args' as1:List V} {v:V} {σ1:St} {KV:V->St->Prop} (hc:Pure P f args' v) (hb:wS P f=true) (hf:Frz (args++caps) σ as1 σ1)
  (hargs:All2 (argS (ren [] σ1.length)) args' as1) (hfl:yD9 v=true) (hk:KV v σ):wVC P c (.fn f caps) args σ KV fx:=
 VC.view hc hb hf hargs (fun r s h=>⟨h.2,by rw[h.1];exact hfl⟩) fun r h=>by rw[h.1];exact hk
attribute [go_sem] frzS frzA frzC frzK zO5 zl7
attribute [go_sem] E9 List.zip_nil_left List.zip_nil_right
theorem iV {f:FuncId} {fn:Func} {code:Code} {nt:Nat} {rs:List ResultVar} {args:List V} {R:V->St->Prop} (n0:Nat) (hf:P.funcs[f]? =some fn) (hnt:fn.ntmps=nt) (hrs:fn.results=rs.toArray)
  (h: ∀c:Ctx,c.σ0.length=n0->c.β0.length=c.σ0.length->wVW P c nt code (retQ P rs n0 R) fx fx (envA 0 args) σ) (hb:fn.body=some code:=by rfl) (h0:σ.length=n0:=by rfl) (hal:args.length<=nt:=by exact Cy rfl):VCalls P f args σ R:=VCalls.introV n0 hf hnt hrs hb h0 hal h
theorem iW {f:FuncId} {fn:Func} {code:Code} {nt:Nat} {rs:List ResultVar} {args:List V} {R:V->St->Prop} (n0:Nat) (hf:P.funcs[f]? =some fn) (hnt:fn.ntmps=nt) (hrs:fn.results=rs.toArray)
  (h: ∀c:Ctx,c.σ0.length=n0->c.β0.length=c.σ0.length->zy0 P c nt code (retQ P rs n0 R) (envA 0 args) σ) (hb:fn.body=some code:=by rfl) (h0:σ.length=n0:=by rfl) (hal:args.length<=nt:=by exact Cy rfl):VCalls P f args σ R:=VCalls.intro n0 hf hnt hrs hb h0 hal h
theorem aN (k:Nat) {keep:List Nat} {vs:List V} {s:St} (hok:s.all (ltOb k)=true) (hs:σ.take k=s:=by simp[go_sem]) (hk:s.length=k:=by rfl) (hn:n0<=k:=by omega) (h:vs=keep.map e:=by simp[go_sem]) (hv:vs.all (ltS k)=true:=by rfl):At n0 keep vs s e σ:=at_n k hs hk hok hn (zG h hv)
theorem aM (k:Nat) {keep:List Nat} {vs:List V} {s:St} (hok:s.all (ltOb k)=true) (h:All2 (argS (ren (List.range k) σ.length)) vs (keep.map e)) (hs:σ.take k=s:=by simp[go_sem]) (hk:s.length=k:=by rfl) (hn:n0<=k:=by omega):At n0 keep vs s e σ:=at_n k hs hk hok hn h
theorem aO {keep:List Nat} {vs:List V} (h:vs=keep.map e:=by simp[go_sem]) (hv:vs.all noS=true:=by rfl):At 0 keep vs [] e σ:=at_0 rfl (zR h hv)
end
end Go.Vx
