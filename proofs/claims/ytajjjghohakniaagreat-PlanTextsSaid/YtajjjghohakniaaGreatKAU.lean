/-
  Running code over trees: whatever it comes to, the contracts say.
  No condition: a library text; nothing of the program is named.
-/
import Derived.Test.YtajjjghohakniaaGreatKAT
namespace Go.Vx
open Go
def envX (ms:List Nat) (l:List V):Env:=fun t=>if t<100000 then l.getD t .u else if ms.contains (t - 100000)then .tup []else .u
theorem xd4 {ms:List Nat} {l:List V} {t:Nat} {v:V} (h:t<l.length) (hl:l.length≤100000):upd (envX ms l) t v=envX ms (l.set t v):=by
 funext k
 simp only[upd,envX]
 by_cases hk:k=t
 ·subst hk
  rw[if_pos rfl,if_pos (by omega),List.getD_eq_getElem?_getD,List.getElem?_set_self h];rfl
 ·rw[if_neg hk]
  split
  ·rw[List.getD_eq_getElem?_getD,List.getD_eq_getElem?_getD,List.getElem?_set_ne (fun q=>hk q.symm)]
  ·rfl
def xput (d:Option Tmp) (v:V) (l:List V):Option (List V):=
 match d with
 |some t=>if t<l.length then some (l.set t v)else none
 |none=>some l
theorem zU1 {d:Option Tmp} {v:V} {l l':List V} {ms:List Nat} (h:xput d v l=some l') (hl:l.length≤100000):l'.length=l.length∧ ∀(K:KT) (σ:St),K (envX ms l') σ→vput l.length d v K (envX ms l) σ:=by
 unfold xput at h
 unfold vput
 split at h
 ·split at h
  ·rename_i ht
   cases h
   refine⟨by simp,fun K σ hk=>⟨ht, ?_⟩⟩
   rw[xd4 ht hl];exact hk
  ·cases h
 ·cases h
  exact⟨rfl,fun K σ hk=>hk⟩
def xgd (g:Option (Nat×Bool)) (ops:List Oper) (e:Env):Option Bool:=
 match g with
 |none=>some true
 |some (j,want)=>(match gdst ops j with|some t=>(match e t with| .bool b=>some (b==want)| .tup []=>some false|_=>none)|none=>none)
theorem yk4 {g:Option (Nat×Bool)} {ops:List Oper} {e:Env} {A B:Prop} {r:Bool} (h:xgd g ops e=some r) (ha:r=true→A) (hb:r=false→B):vgd g ops e A B:=by
 unfold xgd at h
 unfold vgd
 split at h
 ·cases h;exact ha rfl
 ·split at h
  ·rename_i t ht
   simp only[ht]
   unfold vgrd
   split at h
   ·rename_i b he
    cases h
    rw[he]
    exact⟨fun q=>ha (by simp[q]),fun q=>hb (by simpa using q)⟩
   ·rename_i he
    cases h
    rw[he]
    exact hb rfl
   ·cases h
  ·cases h
abbrev zh5:=V→List V→St→Option (V×St)
def zp8 (P:Program) (call:zh5):Prop:= ∀fv as σ v σ',call fv as σ=some (v,σ')→ ∀c,VC P c fv as σ (fun r s=>r=v∧s=σ')
def xopc (P:Program) (call:zh5) (d:Option Tmp) (e:Env) (σ:St) (op:Op):Option (V×St):=
 match op with
 | .call ⟨.value f,args,_⟩=>call (zG e f) (args.toList.map (zG e)) σ
 |op=>xop P d e σ op
theorem xn6 {P:Program} {call:zh5} (hc:zp8 P call) {d:Option Tmp} {e:Env} {σ σ':St} {op:Op} {v:V} {nt:Nat} {c:Ctx} {K:KT} (h:xopc P call d e σ op=some (v,σ')) (hk:vput nt d v K e σ'):vop P c nt d op K e σ:=by
 unfold xopc at h
 unfold vop
 split at h
 ·refine(hc _ _ _ _ _ h c).mono ?_
  rintro r s ⟨rfl,rfl⟩
  exact hk
 ·rename_i hno
  split
  ·exact absurd rfl (hno _ _ _)
  ·exact xq4 h hk
def yu4 (P:Program) (call:zh5) (ms:List Nat) (ops:List Oper):List Oper→List V→St→Option (List V×St)
 | [],l,σ=>some (l,σ)
 |o::rest,l,σ=>
  match xgd o.guard ops (envX ms l)with
  |none=>none
  |some true=>(match xopc P call o.dst (envX ms l) σ o.op with
   |some (v,σ')=>(match xput o.dst v l with|some l'=>yu4 P call ms ops rest l' σ'|none=>none)
   |none=>none)
  |some false=>(match xput o.dst (.tup []) l with|some l'=>yu4 P call ms ops rest l' σ|none=>none)
theorem zM7 {P:Program} {call:zh5} (hc:zp8 P call) {ms:List Nat} {ops:List Oper} {c:Ctx}: ∀(rest:List Oper) (l:List V) (σ:St) (l':List V) (σ':St),yu4 P call ms ops rest l σ=some (l',σ')→l.length≤100000→
  l'.length=l.length∧ ∀K:KT,K (envX ms l') σ'→vrun P c l.length ops rest K (envX ms l) σ
 | [],l,σ,l',σ',h,hl=>by cases h;exact⟨rfl,fun K hk=>hk⟩
 |o::rest,l,σ,l',σ',h,hl=>by
  unfold yu4 at h
  split at h
  ·cases h
  ·rename_i hg
   split at h
   ·rename_i v s1 ho
    split at h
    ·rename_i l1 hp
     obtain⟨e1,e2⟩:=zU1 (ms:=ms) hp hl
     obtain⟨e3,e4⟩:=zM7 hc (c:=c) rest l1 s1 l' σ' h (by omega)
     refine⟨by omega,fun K hk=> ?_⟩
     refine yk4 hg (fun _=> ?_) (fun q=>by cases q)
     refine xn6 hc ho (e2 _ _ ?_)
     have:=e4 K hk
     rwa [e1]at this
    ·cases h
   ·cases h
  ·rename_i hg
   split at h
   ·rename_i l1 hp
    obtain⟨e1,e2⟩:=zU1 (ms:=ms) hp hl
    obtain⟨e3,e4⟩:=zM7 hc (c:=c) rest l1 σ l' σ' h (by omega)
    refine⟨by omega,fun K hk=> ?_⟩
    refine yk4 hg (fun q=>by cases q) (fun _=> ?_)
    refine e2 _ _ ?_
    have:=e4 K hk
    rwa [e1]at this
   ·cases h
def notL:Op→Bool
 | .buildSlice .. | .makeSlice .. | .convert .. | .call _| .next .. | .slice .. =>false
 |_=>true
theorem xn7 {P:Program} {op:Op} (h:notL op=true): ∀e σ,wR P e σ op=evOp P e σ op:=by
 intro e σ
 cases op<;>first|rfl|cases h
def yK5 (n0:Kp) (e:Env):Op→Bool
 | .load _ x=>imm n0 (zG e x)
 |_=>false
def xx6:Op→Bool
 | .alloc _| .box .. =>true
 |_=>false
def xr7 (P:Program) (n0:Kp) (k:Nat) (d:Option Tmp) (e:Env) (σ:St) (op:Op):Bool:=
 (!zc3 e d||notL op)&&(k !=0||zc4 op==0)&&(k !=1||yK5 n0 e op)&&(!isSt (evOp P e σ op)||decide (3≤k))&&(k==4||(k==3&&xx6 op)|| !isSt (evOp P e σ op))
def xtop (P:Program) (call:zh5) (n0:Kp) (k:Nat) (d:Option Tmp) (e:Env) (σ:St) (op:Op):Option (V×St):=
 match op with
 | .call ⟨.value f,args,_⟩=>if k=0 then(match call (zG e f) (args.toList.map (zG e)) []with|some (v,_)=>if noS v&&noS (zG e f)&&(args.toList.map (zG e)).all noS then some (v,σ)else none|none=>none)
   else if k=4 then(match call (zG e f) (args.toList.map (zG e)) σ with|some (v,σ')=>if σ.length≤σ'.length then some (v,σ')else none|none=>none)
   else none
 |op=>if xr7 P n0 k d e σ op then xopR (zX6 P false e σ op) σ (evOp P e σ op)else none
def zs4 (P:Program) (call:zh5):Prop:= ∀fv as v σ',call fv as []=some (v,σ')→noS v=true→noS fv=true→as.all noS=true→ ∀c s,VC P c fv as s (fun r s'=>r=v∧s'=s)
theorem xi6 {P:Program} {call:zh5} (hc:zp8 P call) (hp:zs4 P call) {n0:Kp} {k:Nat} {d:Option Tmp} {e:Env} {σ σ':St} {op:Op} {v:V} {nt:Nat} {c:Ctx} {K:KT} (h:xtop P call n0 k d e σ op=some (v,σ')) (hk:vput nt d v K e σ'):vtop P c nt n0 k d op K e σ:=by
 unfold xtop at h
 unfold vtop
 split at h
 ·split at h
  ·rename_i hk0
   split at h
   ·rename_i v' s' hcall
    split at h
    ·rename_i hn
     cases h
     simp only[Bool.and_eq_true]at hn
     subst hk0
     refine⟨v,σ, ?_,fun _=>rfl,fun _=>KeepN.refl,Nat.le_refl _,hk⟩
     rw[if_pos rfl]
     exact fun s=>hp _ _ _ _ hcall hn.1.1 hn.1.2 hn.2 c s
    ·cases h
   ·cases h
  ·split at h
   ·rename_i hk0 hk4
    split at h
    ·rename_i v' s' hcall
     split at h
     ·rename_i hle
      cases h
      subst hk4
      refine⟨v,σ', ?_,fun q=>by omega,fun q=>by omega,hle,hk⟩
      rw[if_neg (by decide),if_neg (by decide)]
      exact hc _ _ _ _ _ hcall c
     ·cases h
    ·cases h
   ·cases h
 ·rename_i hno
  split
  ·exact absurd rfl (hno _ _ _)
  ·split at h
   ·rename_i ht
    simp only[xr7,Bool.and_eq_true,Bool.or_eq_true,Bool.not_eq_true',bne_iff_ne,beq_iff_eq,decide_eq_true_eq]at ht
    obtain⟨⟨⟨⟨t1,t2⟩,t3⟩,t4⟩,t5⟩:=ht
    have hh:hok P d e op:=by
     rcases t1 with t1|t1
     ·exact .inl t1
     ·exact .inr (xn7 t1)
    rw[zy9 hh]
    refine⟨fun _=>hh, ?_,fun q=>t2.resolve_left (fun w=>w q),fun q=> ?_,fun q=>t4.resolve_left (by rw[q];simp), ?_,ya2 (zQ2 op) h hk⟩
    ·cases hr:evOp P e σ op with
     |all f=>rw[hr]at h;cases h
     |any l=>rw[hr]at h;cases h
     |_=>rfl
    ·have:=t3.resolve_left (fun w=>w q)
     unfold yK5 at this
     split at this
     ·exact⟨_,_,rfl,this⟩
     ·cases this
    ·rcases t5 with (t5|t5)|t5
     ·subst t5;exact zQ8
     ·obtain⟨t5,t6⟩:=t5
      subst t5
      cases op with
      |alloc t=>simp only[evOp];unfold zi8;split<;>first|trivial|exact⟨by simp,fun _=> .inl ⟨_,rfl⟩⟩
      |box t x=>simp only[evOp];unfold zH9;split<;>first|trivial|exact⟨by simp,fun _=> .inl ⟨_,rfl⟩⟩
      |_=>cases t6
     ·exact zs8 t5
   ·cases h
def xtr (P:Program) (call:zh5) (n0:Kp) (ms:List Nat) (ops:List Oper) (q:List (Nat×Nat)):Nat→List Oper→List V→St→Option (List V×St)
 |_,[],l,σ=>some (l,σ)
 |i,o::rest,l,σ=>
  match xgd o.guard ops (envX ms l)with
  |none=>none
  |some true=>(match xtop P call n0 (zW q i o) o.dst (envX ms l) σ o.op with
   |some (v,σ')=>(match xput o.dst v l with|some l'=>xtr P call n0 ms ops q (i+1) rest l' σ'|none=>none)
   |none=>none)
  |some false=>(match xput o.dst (.tup []) l with|some l'=>xtr P call n0 ms ops q (i+1) rest l' σ|none=>none)
theorem yC6 {P:Program} {call:zh5} (hc:zp8 P call) (hpu:zs4 P call) {n0:Kp} {ms:List Nat} {ops:List Oper} {q:List (Nat×Nat)} {c:Ctx}: ∀(rest:List Oper) (i:Nat) (l:List V) (σ:St) (l':List V) (σ':St),xtr P call n0 ms ops q i rest l σ=some (l',σ')→l.length≤100000→
  l'.length=l.length∧ ∀K:KT,K (envX ms l') σ'→vtr P c l.length n0 ops q i rest K (envX ms l) σ
 | [],i,l,σ,l',σ',h,hl=>by cases h;exact⟨rfl,fun K hk=>hk⟩
 |o::rest,i,l,σ,l',σ',h,hl=>by
  unfold xtr at h
  split at h
  ·cases h
  ·rename_i hg
   split at h
   ·rename_i v s1 ho
    split at h
    ·rename_i l1 hp
     obtain⟨e1,e2⟩:=zU1 (ms:=ms) hp hl
     obtain⟨e3,e4⟩:=yC6 hc hpu (c:=c) rest (i+1) l1 s1 l' σ' h (by omega)
     refine⟨by omega,fun K hk=> ?_⟩
     refine yk4 hg (fun _=> ?_) (fun q=>by cases q)
     refine xi6 hc hpu ho (e2 _ _ ?_)
     have:=e4 K hk
     rwa [e1]at this
    ·cases h
   ·cases h
  ·rename_i hg
   split at h
   ·rename_i l1 hp
    obtain⟨e1,e2⟩:=zU1 (ms:=ms) hp hl
    obtain⟨e3,e4⟩:=yC6 hc hpu (c:=c) rest (i+1) l1 σ l' σ' h (by omega)
    refine⟨by omega,fun K hk=> ?_⟩
    refine yk4 hg (fun q=>by cases q) (fun _=> ?_)
    refine e2 _ _ ?_
    have:=e4 K hk
    rwa [e1]at this
   ·cases h
def yl2:Nat→List Oper→List (Nat×Nat)
 |_,[]=> []
 |i,o::os=>(match o.op with| .call ⟨.value _,_,_⟩=> [(i,0)]|_=> [])++yl2 (i+1) os
def zY7:Nat→List Oper→List (Nat×Nat)
 |_,[]=> []
 |i,o::os=>(match o.op with| .store .. => [(i,4)]| .call ⟨.builtin .append,_,_⟩=> [(i,4)]|_=> [])++zY7 (i+1) os
def xr6:Nat→List Oper→List (Nat×Nat)
 |_,[]=> []
 |i,o::os=>(match o.op with| .store .. => [(i,4)]| .call ⟨.builtin .append,_,_⟩=> [(i,4)]| .call ⟨.value _,_,_⟩=> [(i,4)]|_=> [])++xr6 (i+1) os
def yZ2:Nat→List Oper→List (Nat×Nat)
 |_,[]=> []
 |i,o::os=>(match o.op with| .store .. => [(i,4)]| .load .. => [(i,4)]| .alloc _=> [(i,4)]| .call ⟨.builtin .append,_,_⟩=> [(i,4)]| .call ⟨.value _,_,_⟩=> [(i,4)]|_=> [])++yZ2 (i+1) os
def yZ9 (ops:List Oper):List (List (Nat×Nat)):= [[],yl2 0 ops,zY7 0 ops,yl2 0 ops++zY7 0 ops,xr6 0 ops,yZ2 0 ops]
def ym3 (P:Program) (call:zh5) (ms:List Nat) (ops:List Oper) (l:List V) (σ:St):List (List (Nat×Nat))→Option (List V×St)
 | []=>none
 |q::qs=>if zB1 ops q then(match xtr P call (Kp.pre σ.length) ms ops q 0 ops l σ with|some r=>some r|none=>ym3 P call ms ops l σ qs)else ym3 P call ms ops l σ qs
def xd9 (P:Program) (call:zh5) (ms:List Nat) (ops:List Oper) (l:List V) (σ:St):Option (List V×St):=
 if zd2 ops then ym3 P call ms ops l σ (yZ9 ops)else none
theorem yv0 {P:Program} {call:zh5} (hc:zp8 P call) (hpu:zs4 P call) (hm:P.follows .mixedOrders=true) {ms:List Nat} {ops:List Oper} {c:Ctx} {id:Nat} {l l':List V} {σ σ':St} (h:xd9 P call ms ops l σ=some (l',σ')) (hl:l.length≤100000):
  l'.length=l.length∧ ∀Q:QT,Q .normal (envX ms l') σ'→VW P c l.length (.region id ops.toArray true) Q (envX ms l) σ:=by
 unfold xd9 at h
 split at h
 ·rename_i he
  have go: ∀q,zB1 ops q=true→xtr P call (Kp.pre σ.length) ms ops q 0 ops l σ=some (l',σ')→l'.length=l.length∧ ∀Q:QT,Q .normal (envX ms l') σ'→VW P c l.length (.region id ops.toArray true) Q (envX ms l) σ:=by
   intro q hd hx
   obtain⟨e1,e2⟩:=yC6 hc hpu (c:=c) ops 0 l σ l' σ' hx hl
   exact⟨e1,fun Q hq=>zj8 q σ.length rfl hm (by rw[hd,he];rfl) (e2 (Q .normal) hq)⟩
  generalize yZ9 ops=qs at h
  induction qs with
  |nil=>cases h
  |cons q qs ih=>
   unfold ym3 at h
   split at h
   ·rename_i hd
    split at h
    ·rename_i r hx
     cases h
     exact go _ hd hx
    ·exact ih h
   ·exact ih h
 ·cases h
end Go.Vx
namespace Go.Vx
open Go
abbrev RunT:=List Nat→Code→List V→St→Option (Exit×List V×St)
def xr5:Exit→Bool
 | .normal| .ret=>true
 |_=>false
def zC0 (P:Program) (H:FuncId→List Nat) (run:RunT):zh5:=fun fv as σ=>
 match fv with
 | .fn f caps=>(match P.funcs[f]? with
  |some fn=>(match fn.body with
   |some code=>if decide ((as++caps).length≤fn.ntmps)&&decide (fn.ntmps≤100000)then
     (match run (H f) code ((as++caps)++List.replicate (fn.ntmps - (as++caps).length) .u) σ with
     |some (x,l',σ')=>if xr5 x&&decide (σ.length≤σ'.length)then(match retV P fn.results.toList (envX (H f) l') σ' with|some v=>some (v,σ')|none=>none)else none
     |none=>none)else none
   |none=>none)
  |none=>none)
 |_=>none
def orT (T call:zh5):zh5:=fun fv as σ=>match T fv as σ with|some r=>some r|none=>call fv as σ
theorem xv7 {P:Program} {T call:zh5} (hT:zp8 P T) (hc:zp8 P call):zp8 P (orT T call):=by
 intro fv as σ v σ' h c
 unfold orT at h
 split at h
 ·rename_i r hr
  cases h
  exact hT _ _ _ _ _ hr c
 ·exact hc _ _ _ _ _ h c
theorem xb6 {P:Program} {T call:zh5} (hT: ∀fv as,T fv as []=none) (hc:zs4 P call):zs4 P (orT T call):=by
 intro fv as v σ' h
 unfold orT at h
 rw[hT]at h
 exact hc fv as v σ' h
def noT:zh5:=fun _ _ _=>none
theorem xc4 {P:Program}:zp8 P noT:=fun _ _ _ _ _ h=>by cases h
def zm7 (P:Program) (T:zh5) (H:FuncId→List Nat) (run:RunT):RunT:=fun ms code l σ=>
 match code with
 | .skip=>some (.normal,l,σ)
 | .label _=>some (.normal,l,σ)
 | .exit id=>some (.exit id,l,σ)
 | .ret=>some (.ret,l,σ)
 | .seq x y=>(match run ms x l σ with
  |some (.normal,l',σ')=>run ms y l' σ'
  |r=>r)
 | .cond x t f=>(match zG (envX ms l) x with| .bool true=>run ms t l σ| .bool false=>run ms f l σ|_=>none)
 | .block id b=>(match run ms b l σ with
  |some (.exit id',l',σ')=>if id'=id then some (.normal,l',σ')else some (.exit id',l',σ')
  |r=>r)
 | .region _ ops draw=>if draw then(match xd9 P (orT T (zC0 P H run)) ms ops.toList l σ with|some (l',σ')=>some (.normal,l',σ')|none=>none)
   else(match yu4 P (orT T (zC0 P H run)) ms ops.toList ops.toList l σ with|some (l',σ')=>some (.normal,l',σ')|none=>none)
 | .loop b=>(match run ms b l σ with
  |some (.normal,l',σ')=>run ms (.loop b) l' σ'
  |r=>r)
 |_=>none
def zy5 (P:Program) (T:zh5) (H:FuncId→List Nat):Nat→RunT
 |0=>fun _ _ _ _=>none
 |n+1=>zm7 P T H (zy5 P T H n)
def xb8:Exit→Bool
 | .normal| .ret| .exit _=>true
 |_=>false
def yv3 (P:Program) (run:RunT):Prop:= ∀ms code l σ x l' σ',run ms code l σ=some (x,l',σ')→l.length≤100000→
 l'.length=l.length∧xb8 x=true∧ ∀(c:Ctx) (Q:QT),Q x (envX ms l') σ'→VW P c l.length code Q (envX ms l) σ
theorem yZ5 {l:List V} (hl:l.length≤100000) (n:Nat):envX [] (l++List.replicate n .u)=envA 0 l:=by
 funext t
 have e1:=zZ1 l 0 t
 rw[Nat.zero_add]at e1
 rw[e1]
 unfold envX
 by_cases ht:t<l.length
 ·rw[if_pos (by omega),List.getD_eq_getElem?_getD,List.getD_eq_getElem?_getD,List.getElem?_append_left ht]
 ·have e2:l.getD t .u= .u:=by rw[List.getD_eq_getElem?_getD,List.getElem?_eq_none (by omega)];rfl
  rw[e2]
  split
  ·rw[List.getD_eq_getElem?_getD,List.getElem?_append_right (by omega),List.getElem?_replicate]
   split<;>rfl
  ·simp
theorem yT7 {t:Nat} {ms:List Nat} {l:List V}:upd (envX ms l) (100000+t) (.tup [])=envX (t::ms) l:=by
 funext k
 unfold upd envX
 by_cases hk:k=100000+t
 ·rw[if_pos hk,if_neg (by omega),if_pos (by rw[hk];simp)]
 ·rw[if_neg hk]
  by_cases h0:k<100000
  ·rw[if_pos h0,if_pos h0]
  ·have h2:(k - 100000==t)=false:=by simp;omega
   rw[if_neg h0,if_neg h0,List.contains_cons,h2,Bool.false_or]
theorem VW.marks {P:Program} {c:Ctx} {nt:Nat} {code:Code} {Q:QT} {l:List V} {σ:St} (hn:nt≤100000) (ms:List Nat) (h:VW P c nt code Q (envX ms l) σ):VW P c nt code Q (envX [] l) σ:=by
 induction ms with
 |nil=>exact h
 |cons t ms ih=>
  refine ih ?_
  have h2:=zo6 (P:=P) (c:=c) (nt:=nt) (Q:=Q) (e:=envX ms l) (σ:=σ) t (y:=code) hn
  rw[yT7]at h2
  exact h2 h
theorem zz7 {k i:Nat}:ren (List.range k) k i=i:=by
 by_cases h:i<k
 ·exact zc8 h
 ·rw[zp7 (by simp;omega)];simp;omega
theorem yS4 {n0:Nat} {σ:St} (h:n0≤σ.length):Picks n0 (List.range σ.length) σ σ:=by
 refine⟨by simp,List.nodup_range,fun i j o hi ho=> ?_,fun i hi=>by rw[List.getElem?_range (by omega)]⟩
 obtain⟨h1,h2⟩:=List.getElem?_eq_some_iff.1 hi
 simp at h1 h2
 subst h2
 rw[zu0 (fun i=>zz7)]
 exact ho
theorem zr3 {P:Program} {H:FuncId→List Nat} {run:RunT} (hr:yv3 P run) {f:FuncId} {caps as:List V} {σ σ':St} {v:V} (h:zC0 P H run (.fn f caps) as σ=some (v,σ')):
  VCalls P f (as++caps) σ (fun r s=>r=v∧s=σ')∧(P.funcs[f]?.bind (·.body)).isSome=true∧(σ= []→noS v=true→VCalls P f (as++caps) σ (fun r s=>r=v∧s= [])):=by
 unfold zC0 at h
 simp only at h
 split at h
 ·rename_i fn hf
  split at h
  ·rename_i code hb
   split at h
   ·rename_i hlen
    simp only[Bool.and_eq_true,decide_eq_true_eq]at hlen
    split at h
    ·rename_i x l' s1 hx
     split at h
     ·rename_i hret
      simp only[Bool.and_eq_true,decide_eq_true_eq]at hret
      split at h
      ·rename_i v' hv
       cases h
       have hll:((as++caps)++List.replicate (fn.ntmps - (as++caps).length) V.u).length=fn.ntmps:=by
        rw[List.length_append,List.length_replicate];omega
       obtain⟨e1,e2,e3⟩:=hr _ _ _ _ _ _ _ hx (by omega)
       have key: ∀R:V→St→Prop,VRet σ.length R v σ'→VCalls P f (as++caps) σ R:=by
        intro R hR
        refine VCalls.introW (rs:=fn.results.toList) σ.length hf rfl (by simp) hb rfl hlen.1 fun c _ _=> ?_
        rw[←yZ5 (by omega) (fn.ntmps - (as++caps).length)]
        refine VW.marks hlen.2 (H f) ?_
        have:=e3 c (retQ P fn.results.toList σ.length R)
        rw[hll]at this
        refine this ?_
        have hq: ∃v,retV P fn.results.toList (envX (H f) l') σ'=some v∧VRet σ.length R v σ':=⟨v,hv,hR⟩
        cases x with
        |normal=>exact hq
        |ret=>exact hq
        |_=>simp[xr5]at hret
       refine⟨key _ ⟨v,σ',List.range σ'.length,σ',v,.refl _ _,yS4 hret.2,.inl (zz4 (fun i=>zz7) v).symm,rfl,rfl⟩, ?_,fun h0 hn=> ?_⟩
       ·rw[hf]
        show(fn.body).isSome=true
        rw[hb];rfl
       ·subst h0
        refine key _ ⟨v,σ',[],[],v,.refl _ _,⟨rfl,List.nodup_nil,fun i j o h=>by simp at h,fun i h=>absurd h (Nat.not_lt_zero i)⟩,zA hn,rfl,rfl⟩
      ·cases h
     ·cases h
    ·cases h
   ·cases h
  ·cases h
 ·cases h
theorem yR1 {σ s:St} (h:σ.length≤s.length):xR (List.range σ.length) σ s=s:=by
 have hid:yF (ren (List.range σ.length) σ.length)=fun o=>o:=funext fun o=>zu0 (fun i=>zz7) o
 apply List.ext_getElem?
 intro i
 by_cases hi:i<s.length
 ·have:=zm8 (sel:=List.range σ.length) (σc:=σ) (σ':=s) List.nodup_range (fun q hq=>List.mem_range.1 hq) (by simpa using h) (List.getElem?_eq_getElem hi)
  rw[zz7,hid]at this
  rw[this,List.getElem?_eq_getElem hi]
 ·have hl:(xR (List.range σ.length) σ s).length=s.length:=by rw[zq7];simp;omega
  rw[List.getElem?_eq_none (by omega),List.getElem?_eq_none (by omega)]
theorem yw0 {P:Program} {f:FuncId} (hN:(P.funcs.all fun fn=> !(fn.name== "runtime.NumGoroutine"))=true) (h:(P.funcs[f]?.bind (·.body)).isSome=true):zK P f=true:=by
 unfold zK
 cases hf:P.funcs[f]? with
 |none=>rw[hf]at h;cases h
 |some fn=>
  rw[hf]at h
  simp only[Option.bind_some]at h
  have h1:(!(fn.name== "runtime.NumGoroutine"))=true:=by
   obtain⟨hl,he⟩:=Array.getElem?_eq_some_iff.1 hf
   have:=Array.all_eq_true.1 hN f hl
   rw[he]at this
   exact this
  simp only[h1,h,Bool.and_self]
theorem yO8 {P:Program} {H:FuncId→List Nat} {run:RunT} (hr:yv3 P run) (hN:(P.funcs.all fun fn=> !(fn.name== "runtime.NumGoroutine"))=true):zp8 P (zC0 P H run):=by
 intro fv as σ v σ' h c
 cases fv with
 |fn f caps=>
  obtain⟨h1,h2,_⟩:=zr3 hr h
  refine VC.of h1 (yw0 hN h2) (List.range σ.length) List.nodup_range (by simp) (fun i j o hi ho=> ?_) ?_ ?_
  ·obtain⟨h3,h4⟩:=List.getElem?_eq_some_iff.1 hi
   simp at h3 h4
   subst h4
   rw[zu0 (fun i=>zz7)];exact ho
  ·have: ∀l:List V,All2 (argS (ren (List.range σ.length) σ.length)) l l:=by
    intro l
    induction l with
    |nil=>trivial
    |cons a l ih=>exact⟨.inl (zz4 (fun i=>zz7) a).symm,ih⟩
   exact this _
  ·rintro r s ⟨rfl,rfl⟩ hl
   rw[zz4 (fun i=>zz7),yR1 (by simpa using hl)]
   exact⟨rfl,rfl⟩
 |_=>cases h
theorem yp5 {P:Program} {H:FuncId→List Nat} {run:RunT} (hr:yv3 P run) (hN:(P.funcs.all fun fn=> !(fn.name== "runtime.NumGoroutine"))=true):zs4 P (zC0 P H run):=by
 intro fv as v σ' h hn hf ha c s
 cases fv with
 |fn f caps=>
  obtain⟨_,h2,h3⟩:=zr3 hr h
  have hcn:caps.all noS=true:=by
   simp only[noS,noA,noC]at hf
   rw[List.all_eq_true]at hf⊢
   intro x hx
   have:=hf x hx
   cases x<;>first|exact this|cases this
  refine zE (P:=P) (c:=c) (KV:=fun r s'=>r=v∧s'=s) (h3 rfl hn) (yw0 hN h2) (zH (by rw[List.all_append,ha,hcn];rfl)) hn ⟨rfl,rfl⟩
 |_=>cases h
end Go.Vx
namespace Go.Vx
open Go
section
variable {P:Program} {T:zh5} {H:FuncId→List Nat}
theorem yq1 {ms:List Nat} {b:Code} {x:Exit} {l':List V} {σ':St} {N nt:Nat} (hk: ∀k,k≤N→yv3 P (zy5 P T H k)) (hnt:nt≤100000) {c:Ctx} {Q:QT} (hx:xb8 x=true) (hQ:Q x (envX ms l') σ')
  {l:List V} {σ:St} (h:zy5 P T H (N+1) ms (.loop b) l σ=some (x,l',σ')) (hl:l.length=nt):VW P c nt (.loop b) Q (envX ms l) σ:=by
 intro a w L β hs
 refine zD4 (fun m a w=> ∃l σ L β,m≤N+1∧l.length=nt∧zy5 P T H m ms (.loop b) l σ=some (x,l',σ')∧Sim c nt (envX ms l) σ a w L β) (N+1) ⟨l,σ,L,β,Nat.le_refl _,hl,h,hs⟩ ?_
 rintro m a w ⟨l,σ,L,β,hm,hl,h,hs⟩
 cases m with
 |zero=>cases h
 |succ k=>
  have h:zm7 P T H (zy5 P T H k) ms (.loop b) l σ=some (x,l',σ'):=h
  simp only[zm7]at h
  split at h
  ·rename_i l1 σ1 hb
   obtain⟨e1,e2,e3⟩:=hk k (by omega) _ _ _ _ _ _ _ hb (by omega)
   have e4:=e3 c (fun ex e s=>ex= .normal∧e=envX ms l1∧s=σ1) ⟨rfl,rfl,rfl⟩
   rw[hl]at e4
   refine wp_mono (e4 a w L β hs) fun ex a' w' q=> ?_
   cases ex with
   |normal=>
    obtain⟨e',s',L',β',hs',_,rfl,rfl⟩:=q
    exact⟨k,Nat.lt_succ_self k,l1,s',L',β',by omega,by omega,h,hs'⟩
   |exit id=>obtain⟨_,_,_,_,_,q,_⟩:=q;cases q
   |ret=>obtain⟨_,_,_,_,_,q,_⟩:=q;cases q
   |goto _=>exact q.elim
   |panic _=>exact q.elim
   |outgrown=>exact q.elim
  ·rename_i hno
   obtain⟨e1,e2,e3⟩:=hk k (by omega) _ _ _ _ _ _ _ h (by omega)
   have e4:=e3 c (fun ex e s=>ex=x∧e=envX ms l'∧s=σ') ⟨rfl,rfl,rfl⟩
   rw[hl]at e4
   refine wp_mono (e4 a w L β hs) fun ex a' w' q=> ?_
   cases ex with
   |normal=>
    obtain⟨e',s',L',β',hs',q,_,_⟩:=q
    subst q
    exact absurd h (hno _ _)
   |exit id=>obtain⟨e',s',L',β',hs',rfl,rfl,rfl⟩:=q;exact⟨_,_,L',β',hs',hQ⟩
   |ret=>obtain⟨e',s',L',β',hs',rfl,rfl,rfl⟩:=q;exact⟨_,_,L',β',hs',hQ⟩
   |goto _=>exact q.elim
   |panic _=>exact q.elim
   |outgrown=>exact q.elim
theorem yt6 (hT:zp8 P T) (hT0: ∀fv as,T fv as []=none) (hN:(P.funcs.all fun fn=> !(fn.name== "runtime.NumGoroutine"))=true) (hm:P.follows .mixedOrders=true): ∀n k,k≤n→yv3 P (zy5 P T H k):=by
 intro n
 induction n with
 |zero=>
  intro k hk
  have:k=0:=by omega
  subst this
  intro ms code l σ x l' σ' h
  cases h
 |succ n ih=>
  intro k hk
  rcases Nat.lt_or_ge k (n+1)with hlt|hge
  ·exact ih k (by omega)
  have:k=n+1:=by omega
  subst this
  have ihn:=ih n (Nat.le_refl n)
  have hc:zp8 P (orT T (zC0 P H (zy5 P T H n))):=xv7 hT (yO8 ihn hN)
  have hpu:zs4 P (orT T (zC0 P H (zy5 P T H n))):=xb6 hT0 (yp5 ihn hN)
  intro ms code l σ x l' σ' h0 hl
  have h:zm7 P T H (zy5 P T H n) ms code l σ=some (x,l',σ'):=h0
  cases code with
  |skip=>simp only[zm7]at h;cases h;exact⟨rfl,rfl,fun c Q hQ=>zd3 .skip Q _ _ hQ⟩
  |label s=>simp only[zm7]at h;cases h;exact⟨rfl,rfl,fun c Q hQ=>zd3 (.label s) Q _ _ hQ⟩
  |exit id=>simp only[zm7]at h;cases h;exact⟨rfl,rfl,fun c Q hQ=>zd3 (.exit id) Q _ _ hQ⟩
  |ret=>simp only[zm7]at h;cases h;exact⟨rfl,rfl,fun c Q hQ=>zd3 .ret Q _ _ hQ⟩
  |seq x1 y1=>
   simp only[zm7]at h
   split at h
   ·rename_i l1 σ1 hb
    obtain⟨e1,e2,e3⟩:=ihn _ _ _ _ _ _ _ hb hl
    obtain⟨f1,f2,f3⟩:=ihn _ _ _ _ _ _ _ h (by omega)
    refine⟨by omega,f2,fun c Q hQ=> ?_⟩
    refine zN7 (K:=fun e s=>e=envX ms l1∧s=σ1) (e3 c _ ⟨rfl,rfl⟩) ?_
    rintro e' s' ⟨rfl,rfl⟩
    have:=f3 c Q hQ
    rwa [e1]at this
   ·rename_i hno
    obtain⟨e1,e2,e3⟩:=ihn _ _ _ _ _ _ _ h hl
    refine⟨e1,e2,fun c Q hQ=> ?_⟩
    refine zN7 (K:=fun _ _=>False) (e3 c _ ?_) (fun _ _ q=>q.elim)
    show yM0 _ Q x _ _
    cases x with
    |normal=>exact absurd h (hno _ _)
    |_=>exact hQ
  |cond y t f=>
   simp only[zm7]at h
   split at h
   ·rename_i hy
    obtain⟨e1,e2,e3⟩:=ihn _ _ _ _ _ _ _ h hl
    exact⟨e1,e2,fun c Q hQ=>yx7 hy (fun _=>e3 c Q hQ) (fun q=>by cases q)⟩
   ·rename_i hy
    obtain⟨e1,e2,e3⟩:=ihn _ _ _ _ _ _ _ h hl
    exact⟨e1,e2,fun c Q hQ=>yx7 hy (fun q=>by cases q) (fun _=>e3 c Q hQ)⟩
   ·cases h
  |block id b=>
   simp only[zm7]at h
   split at h
   ·rename_i id' l1 σ1 hb
    obtain⟨e1,e2,e3⟩:=ihn _ _ _ _ _ _ _ hb hl
    split at h
    ·rename_i hid
     cases h
     refine⟨e1,rfl,fun c Q hQ=>zk6 (e3 c _ ?_)⟩
     show(if id'=id then Q .normal _ _ else Q (.exit id') _ _)
     rw[if_pos hid];exact hQ
    ·rename_i hid
     cases h
     refine⟨e1,rfl,fun c Q hQ=>zk6 (e3 c _ ?_)⟩
     show(if id'=id then Q .normal _ _ else Q (.exit id') _ _)
     rw[if_neg hid];exact hQ
   ·rename_i hno
    obtain⟨e1,e2,e3⟩:=ihn _ _ _ _ _ _ _ h hl
    refine⟨e1,e2,fun c Q hQ=>zk6 (e3 c _ ?_)⟩
    show blkV id Q x _ _
    cases x with
    |exit id'=>exact absurd h (hno _ _ _)
    |_=>exact hQ
  |region id ops draw=>
   cases draw with
   |true=>
    simp only[zm7,if_true]at h
    split at h
    ·rename_i l1 σ1 hx
     cases h
     refine⟨(yv0 hc hpu hm (c:=⟨default,fun _=>0,[],[],[]⟩) (id:=id) hx hl).1,rfl,fun c Q hQ=> ?_⟩
     have:=(yv0 hc hpu hm (c:=c) (id:=id) hx hl).2 Q hQ
     simpa using this
    ·cases h
   |false=>
    simp only[zm7,Bool.false_eq_true,if_false]at h
    split at h
    ·rename_i l1 σ1 hx
     cases h
     refine⟨(zM7 hc (c:=⟨default,fun _=>0,[],[],[]⟩) _ _ _ _ _ hx hl).1,rfl,fun c Q hQ=> ?_⟩
     have:=(zM7 hc (c:=c) _ _ _ _ _ hx hl).2 (Q .normal) hQ
     exact zd3 _ _ _ _ (show zw3 P c l.length (.region id ops false) Q _ σ from by unfold zw3;simpa using this)
    ·cases h
  |loop b=>
   have hh:=h
   simp only[zm7]at h
   split at h
   ·rename_i l1 σ1 hb
    obtain⟨e1,e2,e3⟩:=ihn _ _ _ _ _ _ _ hb hl
    obtain⟨f1,f2,f3⟩:=ihn _ _ _ _ _ _ _ h (by omega)
    exact⟨by omega,f2,fun c Q hQ=>yq1 ih hl f2 hQ h0 rfl⟩
   ·obtain⟨e1,e2,e3⟩:=ihn _ _ _ _ _ _ _ h hl
    exact⟨e1,e2,fun c Q hQ=>yq1 ih hl e2 hQ h0 rfl⟩
  |rangeFunc _ _ _ _=>simp only[zm7]at h;cases h
  |scope _=>simp only[zm7]at h;cases h
  |goto _=>simp only[zm7]at h;cases h
  |refuse _=>simp only[zm7]at h;cases h
theorem yg0 (hN:(P.funcs.all fun fn=> !(fn.name== "runtime.NumGoroutine"))=true) (hm:P.follows .mixedOrders=true) (H:FuncId→List Nat) (n:Nat) {f:FuncId} {as:List V} {σ σ':St} {v:V} (h:zC0 P H (zy5 P noT H n) (.fn f []) as σ=some (v,σ')):
  VCalls P f as σ (fun r s=>r=v∧s=σ'):=by
 have:=(zr3 (yt6 xc4 (fun _ _=>rfl) hN hm n n (Nat.le_refl n)) h).1
 rwa [List.append_nil]at this
def xr0 (P:Program) (H:FuncId→List Nat) (n:Nat) (f:FuncId) (as:List V):Option V:=
 match zC0 P H (zy5 P noT H n) (.fn f []) as []with
 |some (v,_)=>if noS v then some v else none
 |none=>none
theorem zl8 (hN:(P.funcs.all fun fn=> !(fn.name== "runtime.NumGoroutine"))=true) (hm:P.follows .mixedOrders=true) (H:FuncId→List Nat) (n:Nat) {f:FuncId} {as:List V} {v:V} (h:xr0 P H n f as=some v):Pure P f as v:=by
 unfold xr0 at h
 split at h
 ·rename_i v' s hx
  split at h
  ·rename_i hn
   cases h
   have:=(zr3 (yt6 xc4 (fun _ _=>rfl) hN hm n n (Nat.le_refl n)) hx).2.2 rfl hn
   rwa [List.append_nil]at this
  ·cases h
 ·cases h
end
end Go.Vx
