/-
  Running code over trees: whatever it comes to, the contracts say.
  No condition: a library text; nothing of the program is named.
-/
import Derived.Test.YtajjjghohakniaaGreatLAS
namespace Go.Vx
open Go
def envX (ms:List Nat) (l:List V):Env:=fun t=>if t<100000 then l.getD t .u else if ms.contains (t - 100000)then .tup []else .u
theorem yU5 {ms:List Nat} {l:List V} {t:Nat} {v:V} (h:t<l.length) (hl:l.length≤100000):upd (envX ms l) t v=envX ms (l.set t v):=by
 funext k
 simp only[upd,envX]
 by_cases hk:k=t
 ·subst hk
  rw[if_pos rfl,if_pos (by omega),List.getD_eq_getElem?_getD,List.getElem?_set_self h];rfl
 ·rw[if_neg hk]
  split
  ·rw[List.getD_eq_getElem?_getD,List.getD_eq_getElem?_getD,List.getElem?_set_ne (fun q=>hk q.symm)]
  ·rfl
def xput (d:Option Tmp) (v:V) (l:List V):Option (List V):=
 match d with
 |some t=>if t<l.length then some (l.set t v)else none
 |none=>some l
theorem zT4 {d:Option Tmp} {v:V} {l l':List V} {ms:List Nat} (h:xput d v l=some l') (hl:l.length≤100000):l'.length=l.length∧ ∀(K:KT) (σ:St),K (envX ms l') σ→vput l.length d v K (envX ms l) σ:=by
 unfold xput at h
 unfold vput
 split at h
 ·split at h
  ·rename_i ht
   cases h
   refine⟨by simp,fun K σ hk=>⟨ht, ?_⟩⟩
   rw[yU5 ht hl];exact hk
  ·cases h
 ·cases h
  exact⟨rfl,fun K σ hk=>hk⟩
def xgd (g:Option (Nat×Bool)) (ops:List Oper) (e:Env):Option Bool:=
 match g with
 |none=>some true
 |some (j,want)=>(match gdst ops j with|some t=>(match e t with| .bool b=>some (b==want)| .tup []=>some false|_=>none)|none=>none)
theorem yl2 {g:Option (Nat×Bool)} {ops:List Oper} {e:Env} {A B:Prop} {r:Bool} (h:xgd g ops e=some r) (ha:r=true→A) (hb:r=false→B):vgd g ops e A B:=by
 unfold xgd at h
 unfold vgd
 split at h
 ·cases h;exact ha rfl
 ·split at h
  ·rename_i t ht
   simp only[ht]
   unfold vgrd
   split at h
   ·rename_i b he
    cases h
    rw[he]
    exact⟨fun q=>ha (by simp[q]),fun q=>hb (by simpa using q)⟩
   ·rename_i he
    cases h
    rw[he]
    exact hb rfl
   ·cases h
  ·cases h
abbrev zh3:=V→List V→St→Option (V×St)
def zo3 (P:Program) (call:zh3):Prop:= ∀fv as σ v σ',call fv as σ=some (v,σ')→ ∀c,VC P c fv as σ (fun r s=>r=v∧s=σ')
def xopc (P:Program) (call:zh3) (d:Option Tmp) (e:Env) (σ:St) (op:Op):Option (V×St):=
 match op with
 | .call ⟨.value f,args,_⟩=>call (zF e f) (args.toList.map (zF e)) σ
 |op=>xop P d e σ op
theorem xn4 {P:Program} {call:zh3} (hc:zo3 P call) {d:Option Tmp} {e:Env} {σ σ':St} {op:Op} {v:V} {nt:Nat} {c:Ctx} {K:KT} (h:xopc P call d e σ op=some (v,σ')) (hk:vput nt d v K e σ'):vop P c nt d op K e σ:=by
 unfold xopc at h
 unfold vop
 split at h
 ·refine(hc _ _ _ _ _ h c).mono ?_
  rintro r s ⟨rfl,rfl⟩
  exact hk
 ·rename_i hno
  split
  ·exact absurd rfl (hno _ _ _)
  ·exact xn3 h hk
def yv1 (P:Program) (call:zh3) (ms:List Nat) (ops:List Oper):List Oper→List V→St→Option (List V×St)
 | [],l,σ=>some (l,σ)
 |o::rest,l,σ=>
  match xgd o.guard ops (envX ms l)with
  |none=>none
  |some true=>(match xopc P call o.dst (envX ms l) σ o.op with
   |some (v,σ')=>(match xput o.dst v l with|some l'=>yv1 P call ms ops rest l' σ'|none=>none)
   |none=>none)
  |some false=>(match xput o.dst (.tup []) l with|some l'=>yv1 P call ms ops rest l' σ|none=>none)
theorem zM2 {P:Program} {call:zh3} (hc:zo3 P call) {ms:List Nat} {ops:List Oper} {c:Ctx}: ∀(rest:List Oper) (l:List V) (σ:St) (l':List V) (σ':St),yv1 P call ms ops rest l σ=some (l',σ')→l.length≤100000→
  l'.length=l.length∧ ∀K:KT,K (envX ms l') σ'→vrun P c l.length ops rest K (envX ms l) σ
 | [],l,σ,l',σ',h,hl=>by cases h;exact⟨rfl,fun K hk=>hk⟩
 |o::rest,l,σ,l',σ',h,hl=>by
  unfold yv1 at h
  split at h
  ·cases h
  ·rename_i hg
   split at h
   ·rename_i v s1 ho
    split at h
    ·rename_i l1 hp
     obtain⟨e1,e2⟩:=zT4 (ms:=ms) hp hl
     obtain⟨e3,e4⟩:=zM2 hc (c:=c) rest l1 s1 l' σ' h (by omega)
     refine⟨by omega,fun K hk=> ?_⟩
     refine yl2 hg (fun _=> ?_) (fun q=>by cases q)
     refine xn4 hc ho (e2 _ _ ?_)
     have:=e4 K hk
     rwa [e1]at this
    ·cases h
   ·cases h
  ·rename_i hg
   split at h
   ·rename_i l1 hp
    obtain⟨e1,e2⟩:=zT4 (ms:=ms) hp hl
    obtain⟨e3,e4⟩:=zM2 hc (c:=c) rest l1 σ l' σ' h (by omega)
    refine⟨by omega,fun K hk=> ?_⟩
    refine yl2 hg (fun q=>by cases q) (fun _=> ?_)
    refine e2 _ _ ?_
    have:=e4 K hk
    rwa [e1]at this
   ·cases h
def notL:Op→Bool
 | .buildSlice .. | .makeSlice .. | .convert .. | .call _| .next .. | .slice .. =>false
 |_=>true
theorem xj6 {P:Program} {op:Op} (h:notL op=true): ∀e σ,wJ P e σ op=evOp P e σ op:=by
 intro e σ
 cases op<;>first|rfl|cases h
def yG1 (n0:Kp) (e:Env):Op→Bool
 | .load _ x=>imm n0 (zF e x)
 |_=>false
def xv6:Op→Bool
 | .alloc _| .box .. =>true
 |_=>false
def xp2 (P:Program) (n0:Kp) (k:Nat) (d:Option Tmp) (e:Env) (σ:St) (op:Op):Bool:=
 (!zb4 e d||notL op)&&(k !=0||zb6 op==0)&&(k !=1||yG1 n0 e op)&&(!isSt (evOp P e σ op)||decide (3≤k))&&(k==4||(k==3&&xv6 op)|| !isSt (evOp P e σ op))
def xtop (P:Program) (call:zh3) (n0:Kp) (k:Nat) (d:Option Tmp) (e:Env) (σ:St) (op:Op):Option (V×St):=
 match op with
 | .call ⟨.value f,args,_⟩=>if k=0 then(match call (zF e f) (args.toList.map (zF e)) []with|some (v,_)=>if noS v&&noS (zF e f)&&(args.toList.map (zF e)).all noS then some (v,σ)else none|none=>none)
   else if k=4 then(match call (zF e f) (args.toList.map (zF e)) σ with|some (v,σ')=>if σ.length≤σ'.length then some (v,σ')else none|none=>none)
   else none
 |op=>if xp2 P n0 k d e σ op then xopR (zW4 P false e σ op) σ (evOp P e σ op)else none
def zq6 (P:Program) (call:zh3):Prop:= ∀fv as v σ',call fv as []=some (v,σ')→noS v=true→noS fv=true→as.all noS=true→ ∀c s,VC P c fv as s (fun r s'=>r=v∧s'=s)
theorem xn5 {P:Program} {call:zh3} (hc:zo3 P call) (hp:zq6 P call) {n0:Kp} {k:Nat} {d:Option Tmp} {e:Env} {σ σ':St} {op:Op} {v:V} {nt:Nat} {c:Ctx} {K:KT} (h:xtop P call n0 k d e σ op=some (v,σ')) (hk:vput nt d v K e σ'):vtop P c nt n0 k d op K e σ:=by
 unfold xtop at h
 unfold vtop
 split at h
 ·split at h
  ·rename_i hk0
   split at h
   ·rename_i v' s' hcall
    split at h
    ·rename_i hn
     cases h
     simp only[Bool.and_eq_true]at hn
     subst hk0
     refine⟨v,σ, ?_,fun _=>rfl,fun _=>KeepN.refl,Nat.le_refl _,hk⟩
     rw[if_pos rfl]
     exact fun s=>hp _ _ _ _ hcall hn.1.1 hn.1.2 hn.2 c s
    ·cases h
   ·cases h
  ·split at h
   ·rename_i hk0 hk4
    split at h
    ·rename_i v' s' hcall
     split at h
     ·rename_i hle
      cases h
      subst hk4
      refine⟨v,σ', ?_,fun q=>by omega,fun q=>by omega,hle,hk⟩
      rw[if_neg (by decide),if_neg (by decide)]
      exact hc _ _ _ _ _ hcall c
     ·cases h
    ·cases h
   ·cases h
 ·rename_i hno
  split
  ·exact absurd rfl (hno _ _ _)
  ·split at h
   ·rename_i ht
    simp only[xp2,Bool.and_eq_true,Bool.or_eq_true,Bool.not_eq_true',bne_iff_ne,beq_iff_eq,decide_eq_true_eq]at ht
    obtain⟨⟨⟨⟨t1,t2⟩,t3⟩,t4⟩,t5⟩:=ht
    have hh:hok P d e op:=by
     rcases t1 with t1|t1
     ·exact .inl t1
     ·exact .inr (xj6 t1)
    rw[zx6 hh]
    refine⟨fun _=>hh, ?_,fun q=>t2.resolve_left (fun w=>w q),fun q=> ?_,fun q=>t4.resolve_left (by rw[q];simp), ?_,zZ8 (zN0 op) h hk⟩
    ·cases hr:evOp P e σ op with
     |all f=>rw[hr]at h;cases h
     |any l=>rw[hr]at h;cases h
     |_=>rfl
    ·have:=t3.resolve_left (fun w=>w q)
     unfold yG1 at this
     split at this
     ·exact⟨_,_,rfl,this⟩
     ·cases this
    ·rcases t5 with (t5|t5)|t5
     ·subst t5;exact zO6
     ·obtain⟨t5,t6⟩:=t5
      subst t5
      cases op with
      |alloc t=>simp only[evOp];unfold zi7;split<;>first|trivial|exact⟨by simp,fun _=> .inl ⟨_,rfl⟩⟩
      |box t x=>simp only[evOp];unfold zF8;split<;>first|trivial|exact⟨by simp,fun _=> .inl ⟨_,rfl⟩⟩
      |_=>cases t6
     ·exact zs7 t5
   ·cases h
def xtr (P:Program) (call:zh3) (n0:Kp) (ms:List Nat) (ops:List Oper) (q:List (Nat×Nat)):Nat→List Oper→List V→St→Option (List V×St)
 |_,[],l,σ=>some (l,σ)
 |i,o::rest,l,σ=>
  match xgd o.guard ops (envX ms l)with
  |none=>none
  |some true=>(match xtop P call n0 (zV q i o) o.dst (envX ms l) σ o.op with
   |some (v,σ')=>(match xput o.dst v l with|some l'=>xtr P call n0 ms ops q (i+1) rest l' σ'|none=>none)
   |none=>none)
  |some false=>(match xput o.dst (.tup []) l with|some l'=>xtr P call n0 ms ops q (i+1) rest l' σ|none=>none)
theorem yC7 {P:Program} {call:zh3} (hc:zo3 P call) (hpu:zq6 P call) {n0:Kp} {ms:List Nat} {ops:List Oper} {q:List (Nat×Nat)} {c:Ctx}: ∀(rest:List Oper) (i:Nat) (l:List V) (σ:St) (l':List V) (σ':St),xtr P call n0 ms ops q i rest l σ=some (l',σ')→l.length≤100000→
  l'.length=l.length∧ ∀K:KT,K (envX ms l') σ'→vtr P c l.length n0 ops q i rest K (envX ms l) σ
 | [],i,l,σ,l',σ',h,hl=>by cases h;exact⟨rfl,fun K hk=>hk⟩
 |o::rest,i,l,σ,l',σ',h,hl=>by
  unfold xtr at h
  split at h
  ·cases h
  ·rename_i hg
   split at h
   ·rename_i v s1 ho
    split at h
    ·rename_i l1 hp
     obtain⟨e1,e2⟩:=zT4 (ms:=ms) hp hl
     obtain⟨e3,e4⟩:=yC7 hc hpu (c:=c) rest (i+1) l1 s1 l' σ' h (by omega)
     refine⟨by omega,fun K hk=> ?_⟩
     refine yl2 hg (fun _=> ?_) (fun q=>by cases q)
     refine xn5 hc hpu ho (e2 _ _ ?_)
     have:=e4 K hk
     rwa [e1]at this
    ·cases h
   ·cases h
  ·rename_i hg
   split at h
   ·rename_i l1 hp
    obtain⟨e1,e2⟩:=zT4 (ms:=ms) hp hl
    obtain⟨e3,e4⟩:=yC7 hc hpu (c:=c) rest (i+1) l1 σ l' σ' h (by omega)
    refine⟨by omega,fun K hk=> ?_⟩
    refine yl2 hg (fun q=>by cases q) (fun _=> ?_)
    refine e2 _ _ ?_
    have:=e4 K hk
    rwa [e1]at this
   ·cases h
def yg8:Nat→List Oper→List (Nat×Nat)
 |_,[]=> []
 |i,o::os=>(match o.op with| .call ⟨.value _,_,_⟩=> [(i,0)]|_=> [])++yg8 (i+1) os
def zY6:Nat→List Oper→List (Nat×Nat)
 |_,[]=> []
 |i,o::os=>(match o.op with| .store .. => [(i,4)]| .call ⟨.builtin .append,_,_⟩=> [(i,4)]|_=> [])++zY6 (i+1) os
def xp0:Nat→List Oper→List (Nat×Nat)
 |_,[]=> []
 |i,o::os=>(match o.op with| .store .. => [(i,4)]| .call ⟨.builtin .append,_,_⟩=> [(i,4)]| .call ⟨.value _,_,_⟩=> [(i,4)]|_=> [])++xp0 (i+1) os
def xe1:Nat→List Oper→List (Nat×Nat)
 |_,[]=> []
 |i,o::os=>(match o.op with| .store .. => [(i,4)]| .load .. => [(i,4)]| .alloc _=> [(i,4)]| .call ⟨.builtin .append,_,_⟩=> [(i,4)]| .call ⟨.value _,_,_⟩=> [(i,4)]|_=> [])++xe1 (i+1) os
def xe9 (ops:List Oper):List (List (Nat×Nat)):= [[],yg8 0 ops,zY6 0 ops,yg8 0 ops++zY6 0 ops,xp0 0 ops,xe1 0 ops]
def yl1 (P:Program) (call:zh3) (ms:List Nat) (ops:List Oper) (l:List V) (σ:St):List (List (Nat×Nat))→Option (List V×St)
 | []=>none
 |q::qs=>if zx1 ops q then(match xtr P call (Kp.pre σ.length) ms ops q 0 ops l σ with|some r=>some r|none=>yl1 P call ms ops l σ qs)else yl1 P call ms ops l σ qs
def xf0 (P:Program) (call:zh3) (ms:List Nat) (ops:List Oper) (l:List V) (σ:St):Option (List V×St):=
 if zc2 ops then yl1 P call ms ops l σ (xe9 ops)else none
theorem yu9 {P:Program} {call:zh3} (hc:zo3 P call) (hpu:zq6 P call) (hm:P.follows .mixedOrders=true) {ms:List Nat} {ops:List Oper} {c:Ctx} {id:Nat} {l l':List V} {σ σ':St} (h:xf0 P call ms ops l σ=some (l',σ')) (hl:l.length≤100000):
  l'.length=l.length∧ ∀Q:QT,Q .normal (envX ms l') σ'→VW P c l.length (.region id ops.toArray true) Q (envX ms l) σ:=by
 unfold xf0 at h
 split at h
 ·rename_i he
  have go: ∀q,zx1 ops q=true→xtr P call (Kp.pre σ.length) ms ops q 0 ops l σ=some (l',σ')→l'.length=l.length∧ ∀Q:QT,Q .normal (envX ms l') σ'→VW P c l.length (.region id ops.toArray true) Q (envX ms l) σ:=by
   intro q hd hx
   obtain⟨e1,e2⟩:=yC7 hc hpu (c:=c) ops 0 l σ l' σ' hx hl
   exact⟨e1,fun Q hq=>zi5 q σ.length rfl hm (by rw[hd,he];rfl) (e2 (Q .normal) hq)⟩
  generalize xe9 ops=qs at h
  induction qs with
  |nil=>cases h
  |cons q qs ih=>
   unfold yl1 at h
   split at h
   ·rename_i hd
    split at h
    ·rename_i r hx
     cases h
     exact go _ hd hx
    ·exact ih h
   ·exact ih h
 ·cases h
end Go.Vx
namespace Go.Vx
open Go
abbrev RunT:=List Nat→Code→List V→St→Option (Exit×List V×St)
def xo5:Exit→Bool
 | .normal| .ret=>true
 |_=>false
def zG8 (P:Program) (H:FuncId→List Nat) (run:RunT):zh3:=fun fv as σ=>
 match fv with
 | .fn f caps=>(match P.funcs[f]? with
  |some fn=>(match fn.body with
   |some code=>if decide ((as++caps).length≤fn.ntmps)&&decide (fn.ntmps≤100000)then
     (match run (H f) code ((as++caps)++List.replicate (fn.ntmps - (as++caps).length) .u) σ with
     |some (x,l',σ')=>if xo5 x&&decide (σ.length≤σ'.length)then(match retV P fn.results.toList (envX (H f) l') σ' with|some v=>some (v,σ')|none=>none)else none
     |none=>none)else none
   |none=>none)
  |none=>none)
 |_=>none
def orT (T call:zh3):zh3:=fun fv as σ=>match T fv as σ with|some r=>some r|none=>call fv as σ
theorem xt0 {P:Program} {T call:zh3} (hT:zo3 P T) (hc:zo3 P call):zo3 P (orT T call):=by
 intro fv as σ v σ' h c
 unfold orT at h
 split at h
 ·rename_i r hr
  cases h
  exact hT _ _ _ _ _ hr c
 ·exact hc _ _ _ _ _ h c
theorem xa3 {P:Program} {T call:zh3} (hT: ∀fv as,T fv as []=none) (hc:zq6 P call):zq6 P (orT T call):=by
 intro fv as v σ' h
 unfold orT at h
 rw[hT]at h
 exact hc fv as v σ' h
def noT:zh3:=fun _ _ _=>none
theorem yY9 {P:Program}:zo3 P noT:=fun _ _ _ _ _ h=>by cases h
def zl4 (P:Program) (T:zh3) (H:FuncId→List Nat) (run:RunT):RunT:=fun ms code l σ=>
 match code with
 | .skip=>some (.normal,l,σ)
 | .label _=>some (.normal,l,σ)
 | .exit id=>some (.exit id,l,σ)
 | .ret=>some (.ret,l,σ)
 | .seq x y=>(match run ms x l σ with
  |some (.normal,l',σ')=>run ms y l' σ'
  |r=>r)
 | .cond x t f=>(match zF (envX ms l) x with| .bool true=>run ms t l σ| .bool false=>run ms f l σ|_=>none)
 | .block id b=>(match run ms b l σ with
  |some (.exit id',l',σ')=>if id'=id then some (.normal,l',σ')else some (.exit id',l',σ')
  |r=>r)
 | .region _ ops draw=>if draw then(match xf0 P (orT T (zG8 P H run)) ms ops.toList l σ with|some (l',σ')=>some (.normal,l',σ')|none=>none)
   else(match yv1 P (orT T (zG8 P H run)) ms ops.toList ops.toList l σ with|some (l',σ')=>some (.normal,l',σ')|none=>none)
 | .loop b=>(match run ms b l σ with
  |some (.normal,l',σ')=>run ms (.loop b) l' σ'
  |r=>r)
 |_=>none
def zD1 (P:Program) (T:zh3) (H:FuncId→List Nat):Nat→RunT
 |0=>fun _ _ _ _=>none
 |n+1=>zl4 P T H (zD1 P T H n)
def yV3:Exit→Bool
 | .normal| .ret| .exit _=>true
 |_=>false
def yl4 (P:Program) (run:RunT):Prop:= ∀ms code l σ x l' σ',run ms code l σ=some (x,l',σ')→l.length≤100000→
 l'.length=l.length∧yV3 x=true∧ ∀(c:Ctx) (Q:QT),Q x (envX ms l') σ'→VW P c l.length code Q (envX ms l) σ
theorem yU4 {l:List V} (hl:l.length≤100000) (n:Nat):envX [] (l++List.replicate n .u)=envA 0 l:=by
 funext t
 have e1:=zU7 l 0 t
 rw[Nat.zero_add]at e1
 rw[e1]
 unfold envX
 by_cases ht:t<l.length
 ·rw[if_pos (by omega),List.getD_eq_getElem?_getD,List.getD_eq_getElem?_getD,List.getElem?_append_left ht]
 ·have e2:l.getD t .u= .u:=by rw[List.getD_eq_getElem?_getD,List.getElem?_eq_none (by omega)];rfl
  rw[e2]
  split
  ·rw[List.getD_eq_getElem?_getD,List.getElem?_append_right (by omega),List.getElem?_replicate]
   split<;>rfl
  ·simp
theorem yM1 {t:Nat} {ms:List Nat} {l:List V}:upd (envX ms l) (100000+t) (.tup [])=envX (t::ms) l:=by
 funext k
 unfold upd envX
 by_cases hk:k=100000+t
 ·rw[if_pos hk,if_neg (by omega),if_pos (by rw[hk];simp)]
 ·rw[if_neg hk]
  by_cases h0:k<100000
  ·rw[if_pos h0,if_pos h0]
  ·have h2:(k - 100000==t)=false:=by simp;omega
   rw[if_neg h0,if_neg h0,List.contains_cons,h2,Bool.false_or]
theorem VW.marks {P:Program} {c:Ctx} {nt:Nat} {code:Code} {Q:QT} {l:List V} {σ:St} (hn:nt≤100000) (ms:List Nat) (h:VW P c nt code Q (envX ms l) σ):VW P c nt code Q (envX [] l) σ:=by
 induction ms with
 |nil=>exact h
 |cons t ms ih=>
  refine ih ?_
  have h2:=zC6 (P:=P) (c:=c) (nt:=nt) (Q:=Q) (e:=envX ms l) (σ:=σ) t (y:=code) hn
  rw[yM1]at h2
  exact h2 h
theorem zy8 {k i:Nat}:ren (List.range k) k i=i:=by
 by_cases h:i<k
 ·exact zc7 h
 ·rw[zo5 (by simp;omega)];simp;omega
theorem yP6 {n0:Nat} {σ:St} (h:n0≤σ.length):Picks n0 (List.range σ.length) σ σ:=by
 refine⟨by simp,List.nodup_range,fun i j o hi ho=> ?_,fun i hi=>by rw[List.getElem?_range (by omega)]⟩
 obtain⟨h1,h2⟩:=List.getElem?_eq_some_iff.1 hi
 simp at h1 h2
 subst h2
 rw[zs2 (fun i=>zy8)]
 exact ho
theorem zp1 {P:Program} {H:FuncId→List Nat} {run:RunT} (hr:yl4 P run) {f:FuncId} {caps as:List V} {σ σ':St} {v:V} (h:zG8 P H run (.fn f caps) as σ=some (v,σ')):
  VCalls P f (as++caps) σ (fun r s=>r=v∧s=σ')∧(P.funcs[f]?.bind (·.body)).isSome=true∧(σ= []→noS v=true→VCalls P f (as++caps) σ (fun r s=>r=v∧s= [])):=by
 unfold zG8 at h
 simp only at h
 split at h
 ·rename_i fn hf
  split at h
  ·rename_i code hb
   split at h
   ·rename_i hlen
    simp only[Bool.and_eq_true,decide_eq_true_eq]at hlen
    split at h
    ·rename_i x l' s1 hx
     split at h
     ·rename_i hret
      simp only[Bool.and_eq_true,decide_eq_true_eq]at hret
      split at h
      ·rename_i v' hv
       cases h
       have hll:((as++caps)++List.replicate (fn.ntmps - (as++caps).length) V.u).length=fn.ntmps:=by
        rw[List.length_append,List.length_replicate];omega
       obtain⟨e1,e2,e3⟩:=hr _ _ _ _ _ _ _ hx (by omega)
       have key: ∀R:V→St→Prop,VRet σ.length R v σ'→VCalls P f (as++caps) σ R:=by
        intro R hR
        refine VCalls.introW (rs:=fn.results.toList) σ.length hf rfl (by simp) hb rfl hlen.1 fun c _ _=> ?_
        rw[←yU4 (by omega) (fn.ntmps - (as++caps).length)]
        refine VW.marks hlen.2 (H f) ?_
        have:=e3 c (retQ P fn.results.toList σ.length R)
        rw[hll]at this
        refine this ?_
        have hq: ∃v,retV P fn.results.toList (envX (H f) l') σ'=some v∧VRet σ.length R v σ':=⟨v,hv,hR⟩
        cases x with
        |normal=>exact hq
        |ret=>exact hq
        |_=>simp[xo5]at hret
       refine⟨key _ ⟨v,σ',List.range σ'.length,σ',v,.refl _ _,yP6 hret.2,.inl (zy7 (fun i=>zy8) v).symm,rfl,rfl⟩, ?_,fun h0 hn=> ?_⟩
       ·rw[hf]
        show(fn.body).isSome=true
        rw[hb];rfl
       ·subst h0
        refine key _ ⟨v,σ',[],[],v,.refl _ _,⟨rfl,List.nodup_nil,fun i j o h=>by simp at h,fun i h=>absurd h (Nat.not_lt_zero i)⟩,zA hn,rfl,rfl⟩
      ·cases h
     ·cases h
    ·cases h
   ·cases h
  ·cases h
 ·cases h
theorem yO1 {σ s:St} (h:σ.length≤s.length):xV (List.range σ.length) σ s=s:=by
 have hid:yF (ren (List.range σ.length) σ.length)=fun o=>o:=funext fun o=>zs2 (fun i=>zy8) o
 apply List.ext_getElem?
 intro i
 by_cases hi:i<s.length
 ·have:=zl8 (sel:=List.range σ.length) (σc:=σ) (σ':=s) List.nodup_range (fun q hq=>List.mem_range.1 hq) (by simpa using h) (List.getElem?_eq_getElem hi)
  rw[zy8,hid]at this
  rw[this,List.getElem?_eq_getElem hi]
 ·have hl:(xV (List.range σ.length) σ s).length=s.length:=by rw[zp7];simp;omega
  rw[List.getElem?_eq_none (by omega),List.getElem?_eq_none (by omega)]
theorem ym6 {P:Program} {f:FuncId} (hN:(P.funcs.all fun fn=> !(fn.name== "runtime.NumGoroutine"))=true) (h:(P.funcs[f]?.bind (·.body)).isSome=true):zK P f=true:=by
 unfold zK
 cases hf:P.funcs[f]? with
 |none=>rw[hf]at h;cases h
 |some fn=>
  rw[hf]at h
  simp only[Option.bind_some]at h
  have h1:(!(fn.name== "runtime.NumGoroutine"))=true:=by
   obtain⟨hl,he⟩:=Array.getElem?_eq_some_iff.1 hf
   have:=Array.all_eq_true.1 hN f hl
   rw[he]at this
   exact this
  simp only[h1,h,Bool.and_self]
theorem yL2 {P:Program} {H:FuncId→List Nat} {run:RunT} (hr:yl4 P run) (hN:(P.funcs.all fun fn=> !(fn.name== "runtime.NumGoroutine"))=true):zo3 P (zG8 P H run):=by
 intro fv as σ v σ' h c
 cases fv with
 |fn f caps=>
  obtain⟨h1,h2,_⟩:=zp1 hr h
  refine VC.of h1 (ym6 hN h2) (List.range σ.length) List.nodup_range (by simp) (fun i j o hi ho=> ?_) ?_ ?_
  ·obtain⟨h3,h4⟩:=List.getElem?_eq_some_iff.1 hi
   simp at h3 h4
   subst h4
   rw[zs2 (fun i=>zy8)];exact ho
  ·have: ∀l:List V,All2 (argS (ren (List.range σ.length) σ.length)) l l:=by
    intro l
    induction l with
    |nil=>trivial
    |cons a l ih=>exact⟨.inl (zy7 (fun i=>zy8) a).symm,ih⟩
   exact this _
  ·rintro r s ⟨rfl,rfl⟩ hl
   rw[zy7 (fun i=>zy8),yO1 (by simpa using hl)]
   exact⟨rfl,rfl⟩
 |_=>cases h
theorem ym7 {P:Program} {H:FuncId→List Nat} {run:RunT} (hr:yl4 P run) (hN:(P.funcs.all fun fn=> !(fn.name== "runtime.NumGoroutine"))=true):zq6 P (zG8 P H run):=by
 intro fv as v σ' h hn hf ha c s
 cases fv with
 |fn f caps=>
  obtain⟨_,h2,h3⟩:=zp1 hr h
  have hcn:caps.all noS=true:=by
   simp only[noS,noA,noC]at hf
   rw[List.all_eq_true]at hf⊢
   intro x hx
   have:=hf x hx
   cases x<;>first|exact this|cases this
  refine zD (P:=P) (c:=c) (KV:=fun r s'=>r=v∧s'=s) (h3 rfl hn) (ym6 hN h2) (zG (by rw[List.all_append,ha,hcn];rfl)) hn ⟨rfl,rfl⟩
 |_=>cases h
end Go.Vx
namespace Go.Vx
open Go
section
variable {P:Program} {T:zh3} {H:FuncId→List Nat}
theorem yv0 {ms:List Nat} {b:Code} {x:Exit} {l':List V} {σ':St} {N nt:Nat} (hk: ∀k,k≤N→yl4 P (zD1 P T H k)) (hnt:nt≤100000) {c:Ctx} {Q:QT} (hx:yV3 x=true) (hQ:Q x (envX ms l') σ')
  {l:List V} {σ:St} (h:zD1 P T H (N+1) ms (.loop b) l σ=some (x,l',σ')) (hl:l.length=nt):VW P c nt (.loop b) Q (envX ms l) σ:=by
 intro a w L β hs
 refine zC9 (fun m a w=> ∃l σ L β,m≤N+1∧l.length=nt∧zD1 P T H m ms (.loop b) l σ=some (x,l',σ')∧Sim c nt (envX ms l) σ a w L β) (N+1) ⟨l,σ,L,β,Nat.le_refl _,hl,h,hs⟩ ?_
 rintro m a w ⟨l,σ,L,β,hm,hl,h,hs⟩
 cases m with
 |zero=>cases h
 |succ k=>
  have h:zl4 P T H (zD1 P T H k) ms (.loop b) l σ=some (x,l',σ'):=h
  simp only[zl4]at h
  split at h
  ·rename_i l1 σ1 hb
   obtain⟨e1,e2,e3⟩:=hk k (by omega) _ _ _ _ _ _ _ hb (by omega)
   have e4:=e3 c (fun ex e s=>ex= .normal∧e=envX ms l1∧s=σ1) ⟨rfl,rfl,rfl⟩
   rw[hl]at e4
   refine wp_mono (e4 a w L β hs) fun ex a' w' q=> ?_
   cases ex with
   |normal=>
    obtain⟨e',s',L',β',hs',_,rfl,rfl⟩:=q
    exact⟨k,Nat.lt_succ_self k,l1,s',L',β',by omega,by omega,h,hs'⟩
   |exit id=>obtain⟨_,_,_,_,_,q,_⟩:=q;cases q
   |ret=>obtain⟨_,_,_,_,_,q,_⟩:=q;cases q
   |goto _=>exact q.elim
   |panic _=>exact q.elim
   |outgrown=>exact q.elim
  ·rename_i hno
   obtain⟨e1,e2,e3⟩:=hk k (by omega) _ _ _ _ _ _ _ h (by omega)
   have e4:=e3 c (fun ex e s=>ex=x∧e=envX ms l'∧s=σ') ⟨rfl,rfl,rfl⟩
   rw[hl]at e4
   refine wp_mono (e4 a w L β hs) fun ex a' w' q=> ?_
   cases ex with
   |normal=>
    obtain⟨e',s',L',β',hs',q,_,_⟩:=q
    subst q
    exact absurd h (hno _ _)
   |exit id=>obtain⟨e',s',L',β',hs',rfl,rfl,rfl⟩:=q;exact⟨_,_,L',β',hs',hQ⟩
   |ret=>obtain⟨e',s',L',β',hs',rfl,rfl,rfl⟩:=q;exact⟨_,_,L',β',hs',hQ⟩
   |goto _=>exact q.elim
   |panic _=>exact q.elim
   |outgrown=>exact q.elim
theorem yu8 (hT:zo3 P T) (hT0: ∀fv as,T fv as []=none) (hN:(P.funcs.all fun fn=> !(fn.name== "runtime.NumGoroutine"))=true) (hm:P.follows .mixedOrders=true): ∀n k,k≤n→yl4 P (zD1 P T H k):=by
 intro n
 induction n with
 |zero=>
  intro k hk
  have:k=0:=by omega
  subst this
  intro ms code l σ x l' σ' h
  cases h
 |succ n ih=>
  intro k hk
  rcases Nat.lt_or_ge k (n+1)with hlt|hge
  ·exact ih k (by omega)
  have:k=n+1:=by omega
  subst this
  have ihn:=ih n (Nat.le_refl n)
  have hc:zo3 P (orT T (zG8 P H (zD1 P T H n))):=xt0 hT (yL2 ihn hN)
  have hpu:zq6 P (orT T (zG8 P H (zD1 P T H n))):=xa3 hT0 (ym7 ihn hN)
  intro ms code l σ x l' σ' h0 hl
  have h:zl4 P T H (zD1 P T H n) ms code l σ=some (x,l',σ'):=h0
  cases code with
  |skip=>simp only[zl4]at h;cases h;exact⟨rfl,rfl,fun c Q hQ=>zc8 .skip Q _ _ hQ⟩
  |label s=>simp only[zl4]at h;cases h;exact⟨rfl,rfl,fun c Q hQ=>zc8 (.label s) Q _ _ hQ⟩
  |exit id=>simp only[zl4]at h;cases h;exact⟨rfl,rfl,fun c Q hQ=>zc8 (.exit id) Q _ _ hQ⟩
  |ret=>simp only[zl4]at h;cases h;exact⟨rfl,rfl,fun c Q hQ=>zc8 .ret Q _ _ hQ⟩
  |seq x1 y1=>
   simp only[zl4]at h
   split at h
   ·rename_i l1 σ1 hb
    obtain⟨e1,e2,e3⟩:=ihn _ _ _ _ _ _ _ hb hl
    obtain⟨f1,f2,f3⟩:=ihn _ _ _ _ _ _ _ h (by omega)
    refine⟨by omega,f2,fun c Q hQ=> ?_⟩
    refine zM1 (K:=fun e s=>e=envX ms l1∧s=σ1) (e3 c _ ⟨rfl,rfl⟩) ?_
    rintro e' s' ⟨rfl,rfl⟩
    have:=f3 c Q hQ
    rwa [e1]at this
   ·rename_i hno
    obtain⟨e1,e2,e3⟩:=ihn _ _ _ _ _ _ _ h hl
    refine⟨e1,e2,fun c Q hQ=> ?_⟩
    refine zM1 (K:=fun _ _=>False) (e3 c _ ?_) (fun _ _ q=>q.elim)
    show yJ0 _ Q x _ _
    cases x with
    |normal=>exact absurd h (hno _ _)
    |_=>exact hQ
  |cond y t f=>
   simp only[zl4]at h
   split at h
   ·rename_i hy
    obtain⟨e1,e2,e3⟩:=ihn _ _ _ _ _ _ _ h hl
    exact⟨e1,e2,fun c Q hQ=>yu4 hy (fun _=>e3 c Q hQ) (fun q=>by cases q)⟩
   ·rename_i hy
    obtain⟨e1,e2,e3⟩:=ihn _ _ _ _ _ _ _ h hl
    exact⟨e1,e2,fun c Q hQ=>yu4 hy (fun q=>by cases q) (fun _=>e3 c Q hQ)⟩
   ·cases h
  |block id b=>
   simp only[zl4]at h
   split at h
   ·rename_i id' l1 σ1 hb
    obtain⟨e1,e2,e3⟩:=ihn _ _ _ _ _ _ _ hb hl
    split at h
    ·rename_i hid
     cases h
     refine⟨e1,rfl,fun c Q hQ=>zm2 (e3 c _ ?_)⟩
     show(if id'=id then Q .normal _ _ else Q (.exit id') _ _)
     rw[if_pos hid];exact hQ
    ·rename_i hid
     cases h
     refine⟨e1,rfl,fun c Q hQ=>zm2 (e3 c _ ?_)⟩
     show(if id'=id then Q .normal _ _ else Q (.exit id') _ _)
     rw[if_neg hid];exact hQ
   ·rename_i hno
    obtain⟨e1,e2,e3⟩:=ihn _ _ _ _ _ _ _ h hl
    refine⟨e1,e2,fun c Q hQ=>zm2 (e3 c _ ?_)⟩
    show blkV id Q x _ _
    cases x with
    |exit id'=>exact absurd h (hno _ _ _)
    |_=>exact hQ
  |region id ops draw=>
   cases draw with
   |true=>
    simp only[zl4,if_true]at h
    split at h
    ·rename_i l1 σ1 hx
     cases h
     refine⟨(yu9 hc hpu hm (c:=⟨default,fun _=>0,[],[],[]⟩) (id:=id) hx hl).1,rfl,fun c Q hQ=> ?_⟩
     have:=(yu9 hc hpu hm (c:=c) (id:=id) hx hl).2 Q hQ
     simpa using this
    ·cases h
   |false=>
    simp only[zl4,Bool.false_eq_true,if_false]at h
    split at h
    ·rename_i l1 σ1 hx
     cases h
     refine⟨(zM2 hc (c:=⟨default,fun _=>0,[],[],[]⟩) _ _ _ _ _ hx hl).1,rfl,fun c Q hQ=> ?_⟩
     have:=(zM2 hc (c:=c) _ _ _ _ _ hx hl).2 (Q .normal) hQ
     exact zc8 _ _ _ _ (show zu3 P c l.length (.region id ops false) Q _ σ from by unfold zu3;simpa using this)
    ·cases h
  |loop b=>
   have hh:=h
   simp only[zl4]at h
   split at h
   ·rename_i l1 σ1 hb
    obtain⟨e1,e2,e3⟩:=ihn _ _ _ _ _ _ _ hb hl
    obtain⟨f1,f2,f3⟩:=ihn _ _ _ _ _ _ _ h (by omega)
    exact⟨by omega,f2,fun c Q hQ=>yv0 ih hl f2 hQ h0 rfl⟩
   ·obtain⟨e1,e2,e3⟩:=ihn _ _ _ _ _ _ _ h hl
    exact⟨e1,e2,fun c Q hQ=>yv0 ih hl e2 hQ h0 rfl⟩
  |rangeFunc _ _ _ _=>simp only[zl4]at h;cases h
  |scope _=>simp only[zl4]at h;cases h
  |goto _=>simp only[zl4]at h;cases h
  |refuse _=>simp only[zl4]at h;cases h
theorem yL3 (hN:(P.funcs.all fun fn=> !(fn.name== "runtime.NumGoroutine"))=true) (hm:P.follows .mixedOrders=true) (H:FuncId→List Nat) (n:Nat) {f:FuncId} {as:List V} {σ σ':St} {v:V} (h:zG8 P H (zD1 P noT H n) (.fn f []) as σ=some (v,σ')):
  VCalls P f as σ (fun r s=>r=v∧s=σ'):=by
 have:=(zp1 (yu8 yY9 (fun _ _=>rfl) hN hm n n (Nat.le_refl n)) h).1
 rwa [List.append_nil]at this
def xp1 (P:Program) (H:FuncId→List Nat) (n:Nat) (f:FuncId) (as:List V):Option V:=
 match zG8 P H (zD1 P noT H n) (.fn f []) as []with
 |some (v,_)=>if noS v then some v else none
 |none=>none
theorem zg2 (hN:(P.funcs.all fun fn=> !(fn.name== "runtime.NumGoroutine"))=true) (hm:P.follows .mixedOrders=true) (H:FuncId→List Nat) (n:Nat) {f:FuncId} {as:List V} {v:V} (h:xp1 P H n f as=some v):Pure P f as v:=by
 unfold xp1 at h
 split at h
 ·rename_i v' s hx
  split at h
  ·rename_i hn
   cases h
   have:=(zp1 (yu8 yY9 (fun _ _=>rfl) hN hm n n (Nat.le_refl n)) hx).2.2 rfl hn
   rwa [List.append_nil]at this
  ·cases h
 ·cases h
end
end Go.Vx
