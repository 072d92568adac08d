/-
  A region whose order is open, walked in the text's order.
  No condition: a library text; nothing of the program is named.
-/
import Derived.Test.YtajjjghohakniaaGreatKAM
namespace Go.Vx
open Go
def isSt:R→Bool
 | .st .. | .needst .. =>true
 |_=>false
def zM9:R→Bool
 | .all _| .any _=>true
 |_=>false
def stOk (n0:Kp) (k:Nat) (σ:St):R→Prop
 | .st _ σ'| .needst _ _ σ'=>σ.length≤σ'.length∧(k=3→KeepN n0 σ σ')
 |_=>True
def vtop (P:Program) (c:Ctx) (nt:Nat) (n0:Kp) (k:Nat) (d:Option Tmp) (op:Op) (K:KT) (e:Env) (σ:St):Prop:=
 match op with
 | .call ⟨.value f,args,_⟩=> ∃v σ',(if k=0 then∀s,VC P c (zG e f) (args.toList.map (zG e)) s (fun r s'=>r=v∧s'=s)else if k=1 then∀s,n0.of s=n0.of σ→VC P c (zG e f) (args.toList.map (zG e)) s (fun r s'=>r=v∧s'=s)else VC P c (zG e f) (args.toList.map (zG e)) σ (fun r s=>r=v∧s=σ'))∧
   (k<3→σ'=σ)∧(k=3→KeepN n0 σ σ')∧σ.length≤σ'.length∧vput nt d v K e σ'
 |op=>(k<3→hok P d e op)∧zM9 (xE P d e σ op)=false∧(k=0→zc4 op=0)∧(k=1→ ∃t x,op= .load t x∧imm n0 (zG e x)=true)∧(isSt (xE P d e σ op)=true→3≤k)∧stOk n0 k σ (xE P d e σ op)∧vfin nt d (xE P d e σ op) K e σ
def vtr (P:Program) (c:Ctx) (nt:Nat) (n0:Kp) (ops:List Oper) (q:List (Nat×Nat)):Nat→List Oper→KT→Env→St→Prop
 |_,[],K,e,σ=>K e σ
 |i,o::os,K,e,σ=>vgd o.guard ops e (vtop P c nt n0 (zW q i o) o.dst o.op (vtr P c nt n0 ops q (i+1) os K) e σ) (vput nt o.dst (.tup []) (vtr P c nt n0 ops q (i+1) os K) e σ)
section
variable {P:Program} {c:Ctx} {nt:Nat} {n0:Kp}
theorem yc5 {d:Option Tmp} {v:V} {K:KT} {e:Env} {σ:St} (h:vput nt d v K e σ):(∀t,d=some t→t<nt)∧K (updO e d v) σ:=by
 cases d with
 |none=>exact⟨fun t q=>(by cases q),h⟩
 |some t=>exact⟨fun t' q=>by cases q;exact h.1,h.2⟩
theorem zs1 {ops:List Oper} {q:List (Nat×Nat)}: ∀(os:List Oper) (i:Nat) (K:KT) (e:Env) (σ:St),vtr P c nt n0 ops q i os K e σ→
  ∃tr,zu1 P c nt n0 ops q i os e σ tr∧K (fE (fun _=>true) i os tr e) (fS (fun _=>true) q i os tr σ)
 | [],i,K,e,σ,h=>⟨[],trivial,h⟩
 |o::os,i,K,e,σ,h=>by
  have go: ∀(v:V) (σ':St),Fact P c nt n0 ops q i o e σ v σ'→vtr P c nt n0 ops q (i+1) os K (updO e o.dst v) σ'→ ∃tr,zu1 P c nt n0 ops q i (o::os) e σ tr∧K (fE (fun _=>true) i (o::os) tr e) (fS (fun _=>true) q i (o::os) tr σ):=by
   intro v σ' hf hk
   obtain⟨tr,ht,hK⟩:=zs1 os (i+1) K _ _ hk
   refine⟨(v,σ')::tr,⟨hf,ht⟩, ?_⟩
   rw[fE,fS,if_pos rfl]
   have:(if((fun _=>true) i&&decide (3≤zW q i o))=true then σ' else σ)=σ':=by
    by_cases h2:3≤zW q i o
    ·rw[if_pos (by simp[h2])]
    ·rw[if_neg (by simp[h2])];exact(hf.2.1 (by omega)).symm
   rw[this]
   exact hK
  have yes:(match o.guard with|none=>True|some (j,want)=> ∃t b,gdst ops j=some t∧e t= .bool b∧b=want)→vtop P c nt n0 (zW q i o) o.dst o.op (vtr P c nt n0 ops q (i+1) os K) e σ→
    ∃tr,zu1 P c nt n0 ops q i (o::os) e σ tr∧K (fE (fun _=>true) i (o::os) tr e) (fS (fun _=>true) q i (o::os) tr σ):=by
   intro hg hv
   have hgt: ∃g:Bool,(match o.guard with|none=>g=true|some (j,want)=> ∃t,gdst ops j=some t∧((∃b,e t= .bool b∧g=(b==want))∨(e t= .tup []∧g=false)))∧g=true:=by
    refine⟨true, ?_,rfl⟩
    split
    ·rfl
    ·rename_i j want hgj
     rw[hgj]at hg
     obtain⟨t,b,h1,h2,h3⟩:=hg
     exact⟨t,h1,.inl ⟨b,h2,by simp[h3]⟩⟩
   obtain⟨g,hg1,rfl⟩:=hgt
   unfold vtop at hv
   split at hv
   ·rename_i f args ts hop
    obtain⟨v,σ',hvc,hlt,h3,hlen,hp⟩:=hv
    obtain⟨hd,hk⟩:=yc5 hp
    refine go v σ' ⟨hd,hlt,h3,hlen,true,hg1, ?_⟩ hk
    rw[if_pos rfl,hop]
    exact hvc
   ·rename_i hno
    obtain⟨hhk,hna,hz,ho1,hst,hso,hv⟩:=hv
    have done: ∀v σ',(zW q i o<3→σ'=σ)→(zW q i o=3→KeepN n0 σ σ')→σ.length≤σ'.length→
      ((xE P o.dst e σ o.op= .ok v∧σ'=σ)∨(∃p,xE P o.dst e σ o.op= .need p v∧p∧σ'=σ)∨(3≤zW q i o∧(xE P o.dst e σ o.op= .st v σ'∨ ∃p,xE P o.dst e σ o.op= .needst p v σ'∧p)))→
      vput nt o.dst v (vtr P c nt n0 ops q (i+1) os K) e σ'→ ∃tr,zu1 P c nt n0 ops q i (o::os) e σ tr∧K (fE (fun _=>true) i (o::os) tr e) (fS (fun _=>true) q i (o::os) tr σ):=by
     intro v σ' h2 h3 hlen hf hp
     obtain⟨hd,hk⟩:=yc5 hp
     refine go v σ' ⟨hd,h2,h3,hlen,true,hg1, ?_⟩ hk
     rw[if_pos rfl]
     split
     ·rename_i f args ts hop;exact absurd hop (hno f args ts)
     ·exact⟨hhk,hz,ho1,hf⟩
    cases hr:xE P o.dst e σ o.op with
    |all f=>rw[hr]at hna;cases hna
    |any l=>rw[hr]at hna;cases hna
    |fail=>rw[hr]at hv;exact hv.elim
    |ok v=>rw[hr]at hv;exact done v σ (fun _=>rfl) (fun _=>KeepN.refl) (Nat.le_refl _) (.inl ⟨hr,rfl⟩) hv
    |need p v=>rw[hr]at hv;exact done v σ (fun _=>rfl) (fun _=>KeepN.refl) (Nat.le_refl _) (.inr (.inl ⟨p,hr,hv.1,rfl⟩)) hv.2
    |st v σ'=>
     rw[hr]at hv hso
     have h3:=hst (by rw[hr];rfl)
     exact done v σ' (fun h=>by omega) hso.2 hso.1 (.inr (.inr ⟨h3,.inl hr⟩)) hv
    |needst p v σ'=>
     rw[hr]at hv hso
     have h3:=hst (by rw[hr];rfl)
     exact done v σ' (fun h=>by omega) hso.2 hso.1 (.inr (.inr ⟨h3,.inr ⟨p,hr,hv.1⟩⟩)) hv.2
  have no:(∃j want t,o.guard=some (j,want)∧gdst ops j=some t∧((∃b,e t= .bool b∧b≠want)∨e t= .tup []))→vput nt o.dst (.tup []) (vtr P c nt n0 ops q (i+1) os K) e σ→
    ∃tr,zu1 P c nt n0 ops q i (o::os) e σ tr∧K (fE (fun _=>true) i (o::os) tr e) (fS (fun _=>true) q i (o::os) tr σ):=by
   rintro⟨j,want,t,hg,h1,h2⟩ hv
   obtain⟨hd,hk⟩:=yc5 hv
   refine go (.tup []) σ ⟨hd,fun _=>rfl,fun _=>KeepN.refl,Nat.le_refl _,false, ?_, ?_⟩ hk
   ·rw[hg]
    rcases h2 with ⟨b,h2,h3⟩|h2
    ·exact⟨t,h1,.inl ⟨b,h2,by simp[h3]⟩⟩
    ·exact⟨t,h1,.inr ⟨h2,rfl⟩⟩
   ·rw[if_neg (by simp)];exact⟨rfl,rfl⟩
  unfold vtr vgd at h
  split at h
  ·rename_i hg;exact yes (by rw[hg];trivial) h
  ·rename_i j want hg
   split at h
   ·rename_i t ht
    unfold vgrd at h
    split at h
    ·rename_i b hb
     by_cases hbw:b=want
     ·exact yes (by rw[hg];exact⟨t,b,ht,hb,hbw⟩) (h.1 hbw)
     ·exact no ⟨j,want,t,hg,ht,.inl ⟨b,hb,hbw⟩⟩ (h.2 hbw)
    ·rename_i hb
     exact no ⟨j,want,t,hg,ht,.inr hb⟩ h
    ·exact h.elim
   ·exact h.elim
def wtr (P:Program) (c:Ctx) (nt:Nat) (n0:Kp) (ops:List Oper) (q:List (Nat×Nat)) (i:Nat) (l:List Oper) (K:KT) (_:Fx ops) (_:Fx l) (_:Fx K) (e:Env) (σ:St):Prop:=vtr P c nt n0 ops q i l K e σ
def wtop (P:Program) (c:Ctx) (nt:Nat) (n0:Kp) (k:Nat) (d:Option Tmp) (op:Op) (K:KT) (_:Fx op) (_:Fx K) (e:Env) (σ:St):Prop:=vtop P c nt n0 k d op K e σ
def wVD (P:Program) (c:Ctx) (n0:Kp) (k:Nat) (fv:V) (as:List V) (σ:St) (K:V→St→Prop) (_:Fx K):Prop:=
 ∃v σ',(if k=0 then∀s,VC P c fv as s (fun r s'=>r=v∧s'=s)else if k=1 then∀s,n0.of s=n0.of σ→VC P c fv as s (fun r s'=>r=v∧s'=s)else VC P c fv as σ (fun r s=>r=v∧s=σ'))∧(k<3→σ'=σ)∧(k=3→KeepN n0 σ σ')∧σ.length≤σ'.length∧K v σ'
theorem zj8 {id:Nat} {ops:List Oper} {Q:QT} {e:Env} {σ:St} (q:List (Nat×Nat)) (n0:Nat) (hn:σ.length=n0) (hm:P.follows .mixedOrders=true) (hd:(zB1 ops q&&zd2 ops)=true) (h:wtr P c nt (Kp.pre n0) ops q 0 ops (Q .normal) fx fx fx e σ):wVW P c nt (.region id ops.toArray true) Q fx fx e σ:=by
 simp only[Bool.and_eq_true]at hd
 obtain⟨tr,ht,hK⟩:=zs1 ops 0 (Q .normal) e σ h
 exact VW.draw (n0:=Kp.pre n0) hm (Nat.le_of_eq hn.symm) hd.1 hd.2 ht hK
def xb5 (q:List (Nat×Nat)) (i:Nat) (op:Op):Nat:=match q.find? (·.1==i)with|some p=>min p.2 4|none=>zc4 op
variable {e:Env} {σ:St} {K:KT} {Q:QT} {d:Option Tmp} {k:Nat}
@[go_sem] theorem wtr_nil {ops:List Oper} {q:List (Nat×Nat)} {i:Nat}:wtr P c nt n0 ops q i [] K fx fx fx e σ=K e σ:=id rfl
@[go_sem] theorem wtr_cons {ops rest:List Oper} {q:List (Nat×Nat)} {i:Nat} {op:Op} {ty:TypeId} {pos:String} {aft:Array Edge}:wtr P c nt n0 ops q i (⟨d,op,ty,pos,aft,none⟩::rest) K fx fx fx e σ=
  wtop P c nt n0 (xb5 q i op) d op (wtr P c nt n0 ops q (i+1) rest K fx fx fx) fx fx e σ:=id rfl
@[go_sem] theorem wtr_guard {ops rest:List Oper} {q:List (Nat×Nat)} {i:Nat} {op:Op} {ty:TypeId} {pos:String} {aft:Array Edge} {j:Nat} {want:Bool}:wtr P c nt n0 ops q i (⟨d,op,ty,pos,aft,some (j,want)⟩::rest) K fx fx fx e σ=
  wgdo (wdst ops fx j) want e (wtop P c nt n0 (xb5 q i op) d op (wtr P c nt n0 ops q (i+1) rest K fx fx fx) fx fx e σ) (wput nt d (.tup []) (wtr P c nt n0 ops q (i+1) rest K fx fx fx) fx e σ) fx fx:=id rfl
attribute [go_sem] xb5 imm
theorem zs0 (op:Op) (h:zc4 op<3):isSt (evOp P e σ op)=false:=by
 cases op with
 |call cl=>
  obtain⟨cal,⟨args⟩,ts⟩:=cl
  cases cal with
  |builtin b=>
   cases b
   case len=>simp only[evOp];split<;>first|rfl|(rename_i heq;simp at heq;done)|(unfold zS0;(repeat' split)<;>rfl)
   case min=>simp only[evOp];unfold zx5;(repeat' split)<;>rfl
   case max=>simp only[evOp];unfold zx5;(repeat' split)<;>rfl
   all_goals first|(simp[zc4]at h;done)|rfl
  |_=>rfl
 |slice t x lo hi mx=>cases lo<;>cases hi<;>cases mx<;>simp only[evOp]<;>first|rfl|(unfold zm2;(repeat' split)<;>rfl)|(unfold zm3;(repeat' split)<;>rfl)
 |move x=>rfl
 |assign x=>rfl
 |pick x y z=>simp only[evOp];unfold zE5;(repeat' split)<;>rfl
 |build t ps=>simp only[evOp];unfold zw0;(repeat' split)<;>rfl
 |buildSlice t n ps=>simp only[evOp];unfold wU;(repeat' split)<;>rfl
 |nilCheck x=>simp only[evOp];unfold zS9;(repeat' split)<;>rfl
 |binOp o t x y t'=>simp only[evOp];unfold zr0 yx4 zo7 zl3 zJ4 zK4;(repeat' split)<;>rfl
 |unOp o t x=>simp only[evOp];unfold evUn;(repeat' split)<;>rfl
 |convert t t' x=>simp only[evOp];unfold zA0;(repeat' split)<;>rfl
 |fieldAddr t x f=>simp only[evOp];unfold zd5;(repeat' split)<;>rfl
 |field t x f=>simp only[evOp];unfold zu8;(repeat' split)<;>rfl
 |indexAddr t x i=>simp only[evOp];unfold zh1;(repeat' split)<;>rfl
 |index t x i=>simp only[evOp];unfold zN0;(repeat' split)<;>rfl
 |extract x i=>simp only[evOp];unfold zk2;(repeat' split)<;>rfl
 |makeFunc fn l m=>simp only[evOp];unfold zE9;(repeat' split)<;>rfl
 |load t x=>simp only[evOp];unfold zg3;(repeat' split)<;>first|rfl|(unfold zi7;(repeat' split)<;>rfl)
 |_=>first|(simp[zc4]at h;done)|rfl
theorem zd7 (op:Op) (h: ∀o t x y t',op≠ .binOp o t x y t'):zM9 (evOp P e σ op)=false:=by
 cases op with
 |call cl=>
  obtain⟨cal,⟨args⟩,ts⟩:=cl
  cases cal with
  |builtin b=>
   cases b
   case len=>simp only[evOp];split<;>first|rfl|(rename_i heq;simp at heq;done)|(unfold zS0;(repeat' split)<;>rfl)
   case append=>simp only[evOp];split<;>first|rfl|(rename_i heq;simp at heq;done)|(unfold zg6;(repeat' split)<;>rfl)
   case clear=>simp only[evOp];split<;>first|rfl|(rename_i heq;simp at heq;done)|(unfold zq5;(repeat' split)<;>rfl)
   case delete=>simp only[evOp];split<;>first|rfl|(rename_i heq;simp at heq;done)|(unfold zo8;(repeat' split)<;>rfl)
   case min=>simp only[evOp];unfold zx5;(repeat' split)<;>rfl
   case max=>simp only[evOp];unfold zx5;(repeat' split)<;>rfl
   all_goals rfl
  |_=>rfl
 |slice t x lo hi mx=>cases lo<;>cases hi<;>cases mx<;>simp only[evOp]<;>first|rfl|(unfold zm2;(repeat' split)<;>rfl)|(unfold zm3;(repeat' split)<;>rfl)
 |pick x y z=>simp only[evOp];unfold zE5;(repeat' split)<;>rfl
 |alloc t=>simp only[evOp];unfold zi8;(repeat' split)<;>rfl
 |box t x=>simp only[evOp];unfold zH9;(repeat' split)<;>rfl
 |store t x y=>simp only[evOp];unfold zr1;(repeat' split)<;>rfl
 |makeSlice t l m=>simp only[evOp];unfold zA9;(repeat' split)<;>rfl
 |build t ps=>simp only[evOp];unfold zw0;(repeat' split)<;>rfl
 |buildSlice t n ps=>simp only[evOp];unfold wU;(repeat' split)<;>rfl
 |nilCheck x=>simp only[evOp];unfold zS9;(repeat' split)<;>rfl
 |binOp o t x y t'=>exact absurd rfl (h o t x y t')
 |unOp o t x=>simp only[evOp];unfold evUn;(repeat' split)<;>rfl
 |convert t t' x=>simp only[evOp];unfold zA0;(repeat' split)<;>rfl
 |fieldAddr t x f=>simp only[evOp];unfold zd5;(repeat' split)<;>rfl
 |field t x f=>simp only[evOp];unfold zu8;(repeat' split)<;>rfl
 |indexAddr t x i=>simp only[evOp];unfold zh1;(repeat' split)<;>rfl
 |index t x i=>simp only[evOp];unfold zN0;(repeat' split)<;>rfl
 |extract x i=>simp only[evOp];unfold zk2;(repeat' split)<;>rfl
 |makeFunc fn l m=>simp only[evOp];unfold zE9;(repeat' split)<;>rfl
 |load t x=>simp only[evOp];unfold zg3;(repeat' split)<;>first|rfl|(unfold zi7;(repeat' split)<;>rfl)
 |makeMap t r=>simp only[evOp];unfold zk3;(repeat' split)<;>rfl
 |lookup t x k ok=>simp only[evOp];unfold zp0;(repeat' split)<;>rfl
 |mapUpdate t x k v=>simp only[evOp];unfold xH;(repeat' split)<;>rfl
 |insert t x k v=>simp only[evOp];unfold xH;(repeat' split)<;>rfl
 |range t x=>simp only[evOp];unfold zv6;(repeat' split)<;>rfl
 |next x b=>cases b<;>simp only[evOp]<;>first|rfl|(unfold zq2;(repeat' split)<;>first|rfl|contradiction)
 |_=>rfl
theorem zs8 {r:R} (h:isSt r=false):stOk n0 k σ r:=by
 cases r<;>first|trivial|cases h
theorem zb1 {op:Op} (hA: ∀o t x y t',op≠ .binOp o t x y t') (hL: ∀e σ,wR P e σ op=evOp P e σ op) (h:zc4 op=0) (hc: ∀f as ts,op≠ .call ⟨.value f,as,ts⟩):wtop P c nt n0 0 d op K fx fx e σ=wop P c nt d op K fx fx e σ:=by
 show vtop P c nt n0 0 d op K e σ=vop P c nt d op K e σ
 have hh:hok P d e op:= .inr hL
 unfold vtop vop
 split
 ·exact absurd rfl (hc _ _ _)
 ·have:=zs0 (P:=P) (e:=e) (σ:=σ) op (by omega)
  split
  ·exact absurd rfl (hc _ _ _)
  ·have h2:stOk n0 0 σ (evOp P e σ op):=zs8 this
   rw[zy9 hh]
   simp[this,h,h2,hh,zd7 op hA]
theorem zO9 {op:Op} (hA: ∀o t x y t',op≠ .binOp o t x y t') (h:zc4 op=0) (hc: ∀f as ts,op≠ .call ⟨.value f,as,ts⟩):wtop P c nt n0 0 d op K fx fx e σ=zD1 (hok P d e op) (wop P c nt d op K fx fx e σ) fx:=by
 show vtop P c nt n0 0 d op K e σ=(hok P d e op∧vop P c nt d op K e σ)
 by_cases hh:hok P d e op
 ·unfold vtop vop
  split
  ·exact absurd rfl (hc _ _ _)
  ·have:=zs0 (P:=P) (e:=e) (σ:=σ) op (by omega)
   split
   ·exact absurd rfl (hc _ _ _)
   ·have h3:stOk n0 0 σ (evOp P e σ op):=zs8 this
    rw[zy9 hh]
    simp[this,h,h3,hh,zd7 op hA]
 ·unfold vtop
  split
  ·exact absurd rfl (hc _ _ _)
  ·simp[hh]
@[go_sem] theorem hok_t {op:Op} (h:zc3 e d=false):hok P d e op=True:=by simp[hok,h]
theorem zL3 {t:TypeId} {x:Operand}:hok P d e (.load t x):= .inr fun _ _=>rfl
theorem yA3 {t:TypeId} {x:Operand}:wtop P c nt n0 1 d (.load t x) K fx fx e σ=zD1 (imm n0 (zG e x)=true) (wop P c nt d (.load t x) K fx fx e σ) fx:=by
 show vtop P c nt n0 1 d (.load t x) K e σ=(_∧vop P c nt d (.load t x) K e σ)
 have:=zs0 (P:=P) (e:=e) (σ:=σ) (.load t x) (show 1<3 by omega)
 have h2:stOk n0 1 σ (evOp P e σ (.load t x)):=zs8 this
 have hA:=zd7 (P:=P) (e:=e) (σ:=σ) (.load t x) (fun _ _ _ _ _ h=>by cases h)
 simp only[vtop,vop,this,h2,zy9 zL3,hA]
 refine propext ⟨fun h=> ?_,fun h=> ?_⟩
 ·obtain⟨_,_,_,h1,_,_,h3⟩:=h
  obtain⟨t',x',hop,him⟩:=h1 trivial
  cases hop
  exact⟨him,h3⟩
 ·exact⟨fun _=>zL3,trivial,fun q=>by simp at q,fun _=>⟨t,x,rfl,h.1⟩,fun q=>by simp at q,trivial,h.2⟩
theorem yz5 {t:TypeId} {x:Operand}:wtop P c nt n0 2 d (.load t x) K fx fx e σ=wop P c nt d (.load t x) K fx fx e σ:=by
 show vtop P c nt n0 2 d (.load t x) K e σ=vop P c nt d (.load t x) K e σ
 have:=zs0 (P:=P) (e:=e) (σ:=σ) (.load t x) (show 1<3 by omega)
 have h2:stOk n0 2 σ (evOp P e σ (.load t x)):=zs8 this
 have hA:=zd7 (P:=P) (e:=e) (σ:=σ) (.load t x) (fun _ _ _ _ _ h=>by cases h)
 simp[vtop,vop,this,h2,zy9 zL3,zL3,hA]
theorem zQ8 {op:Op}:stOk n0 4 σ (evOp P e σ op):=by
 by_cases h:zc4 op<3
 ·exact zs8 (zs0 op h)
 ·cases op with
  |alloc t=>simp only[evOp];unfold zi8;(repeat' split)<;>first|trivial|exact⟨by simp,fun h=>by omega⟩
  |box t x=>simp only[evOp];unfold zH9;(repeat' split)<;>first|trivial|exact⟨by simp,fun h=>by omega⟩
  |store t x y=>simp only[evOp];unfold zr1;(repeat' split)<;>first|trivial|exact⟨by simp,fun h=>by omega⟩
  |makeSlice t l m=>simp only[evOp];unfold zA9;(repeat' split)<;>first|trivial|exact⟨by simp,fun h=>by omega⟩
  |makeMap t r=>simp only[evOp];unfold zk3;(repeat' split)<;>first|trivial|exact⟨by simp,fun h=>by omega⟩
  |lookup t x k ok=>simp only[evOp];unfold zp0;(repeat' split)<;>trivial
  |mapUpdate t x k v=>simp only[evOp];unfold xH;(repeat' split)<;>first|trivial|exact⟨by simp,fun h=>by omega⟩
  |insert t x k v=>simp only[evOp];unfold xH;(repeat' split)<;>first|trivial|exact⟨by simp,fun h=>by omega⟩
  |range t x=>simp only[evOp];unfold zv6;(repeat' split)<;>first|trivial|exact⟨by simp,fun h=>by omega⟩
  |next x b=>cases b<;>simp only[evOp]<;>first|trivial|(unfold zq2;(repeat' split)<;>first|trivial|exact⟨by simp,fun h=>by omega⟩)
  |call cl=>
   obtain⟨cal,⟨args⟩,ts⟩:=cl
   cases cal with
   |builtin b=>
    cases b
    case append=>simp only[evOp];split<;>first|trivial|(rename_i heq;simp at heq;done)|(unfold zg6;(repeat' split)<;>first|trivial|exact⟨by simp,fun h=>by omega⟩)
    case clear=>simp only[evOp];split<;>first|trivial|(rename_i heq;simp at heq;done)|(unfold zq5;(repeat' split)<;>first|trivial|exact⟨by simp,fun h=>by omega⟩)
    case delete=>simp only[evOp];split<;>first|trivial|(rename_i heq;simp at heq;done)|(unfold zo8;(repeat' split)<;>first|trivial|exact⟨by simp,fun h=>by omega⟩)
    all_goals first|(simp[zc4]at h;done)|trivial
   |_=>trivial
  |slice t x lo hi mx=>simp[zc4]at h
  |_=>first|(simp[zc4]at h;done)|trivial
theorem zF0 (op:Op) (hA: ∀o t x y t',op≠ .binOp o t x y t') (hN: ∀x b,op≠ .next x b):zM9 (wR P e σ op)=false:=by
 have h:=zd7 (P:=P) (e:=e) (σ:=σ) op hA
 cases op with
 |buildSlice t n ps=>simp only[wR];unfold wC;(repeat' split)<;>rfl
 |makeSlice t l m=>simp only[wR];unfold zq9;(repeat' split)<;>rfl
 |convert t t' x=>simp only[wR];unfold zw1;(repeat' split)<;>rfl
 |slice t x lo hi mx=>
  cases lo with
  |none=>exact h
  |some lo=>cases hi with
   |some _=>exact h
   |none=>cases mx with
    |some _=>exact h
    |none=>simp only[wR];unfold zo4;(repeat' split)<;>rfl
 |next x b=>exact absurd rfl (hN x b)
 |call cl=>
  obtain⟨cal,⟨args⟩,ts⟩:=cl
  cases cal with
  |builtin b=>
   cases b
   case append=>simp only[wR];split<;>first|exact h|(rename_i heq;simp at heq;done)|(unfold zc9;(repeat' split)<;>rfl)
   all_goals exact h
  |_=>exact h
 |_=>exact h
theorem yC9 {op:Op}:stOk n0 4 σ (wR P e σ op):=by
 have h:stOk n0 4 σ (evOp P e σ op):=zQ8
 cases op with
 |buildSlice t n ps=>simp only[wR];unfold wC;(repeat' split)<;>first|trivial|exact⟨by simp,fun h=>by omega⟩
 |makeSlice t l m=>simp only[wR];unfold zq9;(repeat' split)<;>first|trivial|exact⟨by simp,fun h=>by omega⟩
 |convert t t' x=>simp only[wR];unfold zw1;(repeat' split)<;>first|trivial|exact⟨by simp,fun h=>by omega⟩
 |slice t x lo hi mx=>
  cases lo with
  |none=>exact h
  |some lo=>cases hi with
   |some _=>exact h
   |none=>cases mx with
    |some _=>exact h
    |none=>simp only[wR];unfold zo4;(repeat' split)<;>first|trivial|exact⟨by simp,fun h=>by omega⟩
 |next x b=>cases b<;>simp only[wR]<;>first|exact h|(unfold zq2;(repeat' split)<;>first|trivial|exact⟨by simp,fun h=>by omega⟩)
 |call cl=>
  obtain⟨cal,⟨args⟩,ts⟩:=cl
  cases cal with
  |builtin b=>
   cases b
   case append=>simp only[wR];split<;>first|exact h|(rename_i heq;simp at heq;done)|(unfold zc9;(repeat' split)<;>first|trivial|exact⟨by simp,fun h=>by omega⟩)
   all_goals exact h
  |_=>exact h
 |_=>exact h
theorem zP9 {op:Op} (hA: ∀o t x y t',op≠ .binOp o t x y t') (hN: ∀x b,op≠ .next x b) (hc: ∀f as ts,op≠ .call ⟨.value f,as,ts⟩):wtop P c nt n0 4 d op K fx fx e σ=wop P c nt d op K fx fx e σ:=by
 show vtop P c nt n0 4 d op K e σ=vop P c nt d op K e σ
 have h1:zM9 (xE P d e σ op)=false:=by
  unfold xE
  split
  ·exact zF0 op hA hN
  ·exact zd7 op hA
 have h2:stOk n0 4 σ (xE P d e σ op):=by
  unfold xE
  split
  ·exact yC9
  ·exact zQ8
 unfold vtop vop
 split
 ·exact absurd rfl (hc _ _ _)
 ·split
  ·exact absurd rfl (hc _ _ _)
  ·refine propext ⟨fun q=>q.2.2.2.2.2.2,fun q=>⟨fun q=>by omega,h1,fun q=>by simp at q,fun q=>by simp at q,fun _=>by omega,h2,q⟩⟩
theorem yU7 {op:Op} (hA: ∀o t x y t',op≠ .binOp o t x y t') (hN: ∀x b,op≠ .next x b) (_: ∀e σ,wR P e σ op=evOp P e σ op) (hc: ∀f as ts,op≠ .call ⟨.value f,as,ts⟩):wtop P c nt n0 4 d op K fx fx e σ=wop P c nt d op K fx fx e σ:=zP9 hA hN hc
@[go_sem] theorem wtop_buildSlice3 {t:TypeId} {n:Nat} {l:Array (Nat×Operand)}:wtop P c nt n0 3 d (.buildSlice t n l) K fx fx e σ=wop P c nt d (.buildSlice t n l) K fx fx e σ:=by
 show vtop P c nt n0 3 d (.buildSlice t n l) K e σ=vop P c nt d (.buildSlice t n l) K e σ
 have h1:zM9 (xE P d e σ (.buildSlice t n l))=false:=by
  unfold xE
  split
  ·exact zF0 _ (fun _ _ _ _ _ h=>by cases h) (fun _ _ h=>by cases h)
  ·exact zd7 _ (fun _ _ _ _ _ h=>by cases h)
 have h2:stOk n0 3 σ (xE P d e σ (.buildSlice t n l)):=by
  unfold xE
  split
  ·simp only[wR];unfold wC;(repeat' split)<;>first|trivial|exact⟨by simp,fun _=> .inl ⟨_,rfl⟩⟩
  ·simp only[evOp];unfold wU;(repeat' split)<;>trivial
 simp only[vtop,vop]
 exact propext ⟨fun q=>q.2.2.2.2.2.2,fun q=>⟨fun q=>by omega,h1,fun q=>by simp at q,fun q=>by simp at q,fun _=>by omega,h2,q⟩⟩
theorem zE6 {op:Op} (hA: ∀o t x y t',op≠ .binOp o t x y t') (hL: ∀e σ,wR P e σ op=evOp P e σ op) (h2:stOk n0 3 σ (evOp P e σ op)) (hc: ∀f as ts,op≠ .call ⟨.value f,as,ts⟩):wtop P c nt n0 3 d op K fx fx e σ=wop P c nt d op K fx fx e σ:=by
 show vtop P c nt n0 3 d op K e σ=vop P c nt d op K e σ
 have hh:hok P d e op:= .inr hL
 unfold vtop vop
 split
 ·exact absurd rfl (hc _ _ _)
 ·split
  ·exact absurd rfl (hc _ _ _)
  ·rw[zy9 hh];simp[h2,hh,zd7 op hA]
def Kp.out (k:Kp) (id:Nat):Bool:=decide (id<k.x)||decide (k.n≤id)
@[go_sem] theorem Kp.out_pre {n id:Nat}:(Kp.mk 0 n).out id=decide (n≤id):=by simp[Kp.out]
@[go_sem] theorem Kp.out_but {x n id:Nat}:(Kp.mk (x+1) n).out id=(decide (id<x+1)||decide (n≤id)):=rfl
def zb5 (n0:Kp):V→Bool
 | .ptr id _=>n0.out id
 | .lsp id _ _ _ _=>n0.out id
 |_=>false
attribute [go_sem] zb5
@[go_sem] theorem wtop_store3 {t:TypeId} {x y:Operand} (h:zb5 n0 (zG e x)=true):wtop P c nt n0 3 d (.store t x y) K fx fx e σ=wop P c nt d (.store t x y) K fx fx e σ:=
 zE6 (fun _ _ _ _ _ h=>by cases h) (fun _ _=>rfl) (by
  simp only[evOp]
  unfold zr1
  split
  ·rename_i id off hx
   rw[hx]at h
   have h:n0.out id=true:=h
   simp only[Kp.out,Bool.or_eq_true,decide_eq_true_eq]at h
   (repeat' split)<;>first|trivial|exact⟨by simp,fun _=> .inr (Kp.of_set h)⟩
  ·rename_i id s n k j hx
   rw[hx]at h
   have h:n0.out id=true:=h
   simp only[Kp.out,Bool.or_eq_true,decide_eq_true_eq]at h
   (repeat' split)<;>first|trivial|exact⟨by simp,fun _=> .inr (Kp.of_set h)⟩
  ·trivial) (fun _ _ _ h=>by cases h)
@[go_sem] theorem wtop_move {x:Operand}:wtop P c nt n0 0 d (.move x) K fx fx e σ=wop P c nt d (.move x) K fx fx e σ:=zb1 (fun _ _ _ _ _ h=>by cases h) (fun _ _=>rfl) rfl (fun _ _ _ h=>by cases h)
@[go_sem] theorem wtop_assign {x:Operand}:wtop P c nt n0 0 d (.assign x) K fx fx e σ=wop P c nt d (.assign x) K fx fx e σ:=zb1 (fun _ _ _ _ _ h=>by cases h) (fun _ _=>rfl) rfl (fun _ _ _ h=>by cases h)
@[go_sem] theorem wtop_pick {x y z:Operand}:wtop P c nt n0 0 d (.pick x y z) K fx fx e σ=wop P c nt d (.pick x y z) K fx fx e σ:=zb1 (fun _ _ _ _ _ h=>by cases h) (fun _ _=>rfl) rfl (fun _ _ _ h=>by cases h)
@[go_sem] theorem wtop_build {t:TypeId} {l:Array (Nat×Operand)}:wtop P c nt n0 0 d (.build t l) K fx fx e σ=wop P c nt d (.build t l) K fx fx e σ:=zb1 (fun _ _ _ _ _ h=>by cases h) (fun _ _=>rfl) rfl (fun _ _ _ h=>by cases h)
@[go_sem] theorem wtop_buildSlice {t:TypeId} {n:Nat} {l:Array (Nat×Operand)}:wtop P c nt n0 0 d (.buildSlice t n l) K fx fx e σ=zD1 (hok P d e (.buildSlice t n l)) (wop P c nt d (.buildSlice t n l) K fx fx e σ) fx:=zO9 (fun _ _ _ _ _ h=>by cases h) rfl (fun _ _ _ h=>by cases h)
@[go_sem] theorem wtop_nil {x:Operand}:wtop P c nt n0 0 d (.nilCheck x) K fx fx e σ=wop P c nt d (.nilCheck x) K fx fx e σ:=zb1 (fun _ _ _ _ _ h=>by cases h) (fun _ _=>rfl) rfl (fun _ _ _ h=>by cases h)
theorem yS2 {op:BinOp} {t t':TypeId} {x y:Operand}:wtop P c nt n0 0 d (.binOp op t x y t') K fx fx e σ=zD1 (zM9 (wh (zf6 y) (zr0 op (eqK P t) (zG e x)) (wh (ze5 y) (zo7 op (zj3 P t) (zG e x)) (zl3 op (eqK P t) (eqS P t) (zG e x) (zG e y))))=false) (wop P c nt d (.binOp op t x y t') K fx fx e σ) fx:=by
 show vtop P c nt n0 0 d (.binOp op t x y t') K e σ=(zM9 (evOp P e σ (.binOp op t x y t'))=false∧vop P c nt d (.binOp op t x y t') K e σ)
 have hh:hok P d e (.binOp op t x y t'):= .inr fun _ _=>rfl
 have h1:=zs0 (P:=P) (e:=e) (σ:=σ) (.binOp op t x y t') (show 0<3 by omega)
 have h2:stOk n0 0 σ (evOp P e σ (.binOp op t x y t')):=zs8 h1
 simp[vtop,vop,zy9 hh,hh,h1,h2,zc4]
attribute [go_sem] yS2 zM9
@[go_sem] theorem wtop_un {op:UnOp} {t:TypeId} {x:Operand}:wtop P c nt n0 0 d (.unOp op t x) K fx fx e σ=wop P c nt d (.unOp op t x) K fx fx e σ:=zb1 (fun _ _ _ _ _ h=>by cases h) (fun _ _=>rfl) rfl (fun _ _ _ h=>by cases h)
@[go_sem] theorem wtop_conv {t t':TypeId} {x:Operand}:wtop P c nt n0 0 d (.convert t t' x) K fx fx e σ=zD1 (hok P d e (.convert t t' x)) (wop P c nt d (.convert t t' x) K fx fx e σ) fx:=zO9 (fun _ _ _ _ _ h=>by cases h) rfl (fun _ _ _ h=>by cases h)
@[go_sem] theorem wtop_slice {t:TypeId} {x:Operand} {lo hi mx:Option Operand}:wtop P c nt n0 0 d (.slice t x lo hi mx) K fx fx e σ=zD1 (hok P d e (.slice t x lo hi mx)) (wop P c nt d (.slice t x lo hi mx) K fx fx e σ) fx:=zO9 (fun _ _ _ _ _ h=>by cases h) rfl (fun _ _ _ h=>by cases h)
@[go_sem] theorem wtop_fieldAddr {t:TypeId} {x:Operand} {f:Nat}:wtop P c nt n0 0 d (.fieldAddr t x f) K fx fx e σ=wop P c nt d (.fieldAddr t x f) K fx fx e σ:=zb1 (fun _ _ _ _ _ h=>by cases h) (fun _ _=>rfl) rfl (fun _ _ _ h=>by cases h)
@[go_sem] theorem wtop_field {t:TypeId} {x:Operand} {f:Nat}:wtop P c nt n0 0 d (.field t x f) K fx fx e σ=wop P c nt d (.field t x f) K fx fx e σ:=zb1 (fun _ _ _ _ _ h=>by cases h) (fun _ _=>rfl) rfl (fun _ _ _ h=>by cases h)
@[go_sem] theorem wtop_idxAddr {t:TypeId} {x i:Operand}:wtop P c nt n0 0 d (.indexAddr t x i) K fx fx e σ=wop P c nt d (.indexAddr t x i) K fx fx e σ:=zb1 (fun _ _ _ _ _ h=>by cases h) (fun _ _=>rfl) rfl (fun _ _ _ h=>by cases h)
@[go_sem] theorem wtop_idx {t:TypeId} {x i:Operand}:wtop P c nt n0 0 d (.index t x i) K fx fx e σ=wop P c nt d (.index t x i) K fx fx e σ:=zb1 (fun _ _ _ _ _ h=>by cases h) (fun _ _=>rfl) rfl (fun _ _ _ h=>by cases h)
@[go_sem] theorem wtop_extract {x:Operand} {i:Nat}:wtop P c nt n0 0 d (.extract x i) K fx fx e σ=wop P c nt d (.extract x i) K fx fx e σ:=zb1 (fun _ _ _ _ _ h=>by cases h) (fun _ _=>rfl) rfl (fun _ _ _ h=>by cases h)
@[go_sem] theorem wtop_func {fn:Fn} {l m:Array Operand}:wtop P c nt n0 0 d (.makeFunc fn l m) K fx fx e σ=wop P c nt d (.makeFunc fn l m) K fx fx e σ:=zb1 (fun _ _ _ _ _ h=>by cases h) (fun _ _=>rfl) rfl (fun _ _ _ h=>by cases h)
@[go_sem] theorem wtop_len {l:Array Operand} {ts:Array TypeId}:wtop P c nt n0 0 d (.call ⟨.builtin .len,l,ts⟩) K fx fx e σ=wop P c nt d (.call ⟨.builtin .len,l,ts⟩) K fx fx e σ:=zb1 (fun _ _ _ _ _ h=>by cases h) (fun _ _=>rfl) rfl (fun _ _ _ h=>by cases h)
@[go_sem] theorem wtop_min {l:Array Operand} {ts:Array TypeId}:wtop P c nt n0 0 d (.call ⟨.builtin .min,l,ts⟩) K fx fx e σ=wop P c nt d (.call ⟨.builtin .min,l,ts⟩) K fx fx e σ:=zb1 (fun _ _ _ _ _ h=>by cases h) (fun _ _=>rfl) rfl (fun _ _ _ h=>by cases h)
@[go_sem] theorem wtop_max {l:Array Operand} {ts:Array TypeId}:wtop P c nt n0 0 d (.call ⟨.builtin .max,l,ts⟩) K fx fx e σ=wop P c nt d (.call ⟨.builtin .max,l,ts⟩) K fx fx e σ:=zb1 (fun _ _ _ _ _ h=>by cases h) (fun _ _=>rfl) rfl (fun _ _ _ h=>by cases h)
@[go_sem] theorem wtop_store {t:TypeId} {x y:Operand}:wtop P c nt n0 4 d (.store t x y) K fx fx e σ=wop P c nt d (.store t x y) K fx fx e σ:=yU7 (fun _ _ _ _ _ h=>by cases h) (fun _ _ h=>by cases h) (fun _ _=>rfl) (fun _ _ _ h=>by cases h)
@[go_sem] theorem wtop_make {t:TypeId} {l m:Operand}:wtop P c nt n0 4 d (.makeSlice t l m) K fx fx e σ=wop P c nt d (.makeSlice t l m) K fx fx e σ:=zP9 (fun _ _ _ _ _ h=>by cases h) (fun _ _ h=>by cases h) (fun _ _ _ h=>by cases h)
@[go_sem] theorem wtop_append {l:Array Operand} {ts:Array TypeId}:wtop P c nt n0 4 d (.call ⟨.builtin .append,l,ts⟩) K fx fx e σ=wop P c nt d (.call ⟨.builtin .append,l,ts⟩) K fx fx e σ:=zP9 (fun _ _ _ _ _ h=>by cases h) (fun _ _ h=>by cases h) (fun _ _ _ h=>by cases h)
@[go_sem] theorem wtop_alloc {t:TypeId}:wtop P c nt n0 3 d (.alloc t) K fx fx e σ=wop P c nt d (.alloc t) K fx fx e σ:=zE6 (fun _ _ _ _ _ h=>by cases h) (fun _ _=>rfl) (by
 simp only[evOp];unfold zi8;split<;>first|trivial|exact⟨by simp,fun _=> .inl ⟨_,rfl⟩⟩) (fun _ _ _ h=>by cases h)
@[go_sem] theorem wtop_box {t:TypeId} {x:Operand}:wtop P c nt n0 3 d (.box t x) K fx fx e σ=wop P c nt d (.box t x) K fx fx e σ:=zE6 (fun _ _ _ _ _ h=>by cases h) (fun _ _=>rfl) (by
 simp only[evOp];unfold zH9;split<;>first|trivial|exact⟨by simp,fun _=> .inl ⟨_,rfl⟩⟩) (fun _ _ _ h=>by cases h)
attribute [go_sem] yA3 yz5
@[go_sem] theorem wtop_call {f:Operand} {l:List Operand} {ts:Array TypeId}:wtop P c nt n0 k d (.call ⟨.value f,l.toArray,ts⟩) K fx fx e σ=wVD P c n0 k (zG e f) (l.map (zG e)) σ (yY9 nt d K fx e) fx:=id rfl
attribute [go_sem] zc4
theorem zS {f:FuncId} {caps args args':List V} {v:V} {KV:V→St→Prop} (hc:Pure P f args' v) (hb:zK P f=true) (hargs: ∀N,All2 (argS (ren [] N)) args' (args++caps)) (hn:noS v=true) (hk:KV v σ):
  wVD P c n0 0 (.fn f caps) args σ KV fx:=by
 refine⟨v,σ, ?_,fun _=>rfl,fun _=>KeepN.refl,Nat.le_refl _,hk⟩
 rw[if_pos rfl]
 exact fun s=>zE (P:=P) (c:=c) (KV:=fun r s'=>r=v∧s'=s) hc hb (hargs _) hn ⟨rfl,rfl⟩
theorem zq7 {sel:List Nat} {σ s1:St}:(xR sel σ s1).length=σ.length+(s1.length - sel.length):=by
 simp[xR,xM]
theorem yc7 {f:FuncId} {caps args args':List V} {σin s1:St} {v:V} {KV:V→St→Prop} (hc:VCalls P f args' σin (fun r s=>r=v∧s=s1)) (hb:zK P f=true) (sel:List Nat) (hnd:sel.Nodup) (hlen:σin.length=sel.length)
  (hob: ∀(i j:Nat) (o:Ob),sel[i]? =some j→σin[i]? =some o→σ[j]? =some (yF (ren sel σ.length) o)) (hargs:All2 (argS (ren sel σ.length)) args' (args++caps)) (hkeep:KeepN n0 σ (xR sel σ s1))
  (hk:KV (renS (ren sel σ.length) v) (xR sel σ s1)):wVD P c n0 3 (.fn f caps) args σ KV fx:=by
 refine⟨_,_, ?_,fun h=>by omega,fun _=>hkeep,by rw[zq7];omega,hk⟩
 rw[if_neg (by decide),if_neg (by decide)]
 refine VC.of hc hb sel hnd hlen hob hargs ?_
 rintro r s ⟨rfl,rfl⟩ _
 exact⟨rfl,rfl⟩
theorem yH4 {f:FuncId} {caps args args':List V} {s1:St} {v:V} {KV:V→St→Prop} (hc:VCalls P f args' [] (fun r s=>r=v∧s=s1)) (hb:zK P f=true)
  (hargs:All2 (argS (ren [] σ.length)) args' (args++caps)) (hk:KV (renS (ren [] σ.length) v) (σ++s1.map (yF (ren [] σ.length)))):wVD P c n0 3 (.fn f caps) args σ KV fx:=by
 have e:xR [] σ s1=σ++s1.map (yF (ren [] σ.length)):=by simp[xR,mset]
 exact yc7 hc hb [] List.nodup_nil rfl (fun i j o h=>by simp at h) hargs (.inl ⟨_,e⟩) (by rw[e];exact hk)
theorem yW2 {f:FuncId} {caps args args':List V} {v:V} {KV:V→St→Prop} (hc:Pure P f args' v) (hb:zK P f=true) (hf: ∀s,n0.of s=n0.of σ→ ∃as1 σ1,Frz (args++caps) s as1 σ1∧All2 (argS (ren [] σ1.length)) args' as1)
  (hfl:ys7 v=true) (hk:KV v σ):wVD P c n0 1 (.fn f caps) args σ KV fx:=by
 refine⟨v,σ, ?_,fun _=>rfl,fun h=>by omega,Nat.le_refl _,hk⟩
 rw[if_neg (by decide),if_pos rfl]
 intro s hs
 obtain⟨as1,σ1,h1,h2⟩:=hf s hs
 exact VC.view hc hb h1 h2 (fun r s h=>⟨h.2,by rw[h.1];exact hfl⟩) fun r h=>⟨h.1,rfl⟩
end
end Go.Vx
