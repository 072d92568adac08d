/-
  A region whose order is open: every order that its edges allow comes to what the text's order comes to.
  No condition: a library text; nothing of the program is named.
-/
import Derived.Test.YtkigddpaonhmlaaGreatXAJ
import Derived.Orders
set_option maxHeartbeats 8000000
namespace Go.Vx
open Go
def zd3:Op->Nat
 | .move _| .assign _| .pick .. | .build .. | .buildSlice .. | .nilCheck _| .binOp .. | .unOp .. | .convert .. | .slice .. | .fieldAddr .. | .field .. | .indexAddr .. | .index .. | .extract .. | .makeFunc .. =>0
 | .call ⟨.builtin .len,_,_⟩| .call ⟨.builtin .min,_,_⟩| .call ⟨.builtin .max,_,_⟩=>0
 | .load .. =>1
 | .alloc .. | .box .. =>3
 |_=>4
def zY (q:List (Nat×Nat)) (i:Nat) (o:Oper):Nat:=match q.find? (·.1==i)with|some p=>min p.2 4|none=>zd3 o.op
structure Kp where
 x:Nat
 n:Nat
 ex:List Nat
 ob:Option (Nat×(Ob->R))
abbrev Kp.pre (n:Nat):Kp:=⟨0,n,[],none⟩
def Kp.has (k:Kp) (id:Nat):Bool:=decide (k.x<=id)&&decide (id<k.n)&& !k.ex.contains id
@[go_sem] theorem Kp.has_pre {n id:Nat}:(Kp.mk 0 n [] none).has id=decide (id<n):=by simp[Kp.has]
@[go_sem] theorem Kp.has_but {x n id:Nat}:(Kp.mk (x+1) n [] none).has id=(decide (x+1<=id)&&decide (id<n)):=by simp[Kp.has]
def Kp.of (k:Kp) (σ:St):St×Option R:=(((σ.take k.n).mapIdx fun i o=>if k.ex.contains i then .dead else o).drop k.x,k.ob.bind fun p=>((σ.take k.n)[p.1]?).map p.2)
theorem Kp.get {k:Kp} {id:Nat} {σ S:St} (h:k.has id=true) (ht:k.of σ=k.of S):σ[id]? =S[id]? :=by
 simp only[Kp.has,A4,decide_eq_true_eq,Ck]at h
 obtain⟨⟨h1,h2⟩,h3⟩:=h
 have e: ∀τ:St,(k.of τ).1[id - k.x]? =τ[id]? :=fun τ=>by
  unfold Kp.of
  rw[B0,show k.x+(id - k.x)=id by omega,E0,Ae,if_pos h2]
  simp only[h3]
  cases τ[id]? <;>simp
 rw[<-e σ,<-e S,ht]
theorem Kp.of_append {k:Kp} {σ ext:St} (h:k.n<=σ.length):k.of (σ++ext)=k.of σ:=by
 unfold Kp.of
 rw[Cv h]
theorem Kp.of_set {k:Kp} {σ:St} {id:Nat} {o:Ob} (h:(id<k.x/\k.ob=none)∨k.n<=id):k.of (σ.set id o)=k.of σ:=by
 unfold Kp.of
 congr 1
 .refine C4 fun i=> ?_
  rw[B0,B0,E0,E0,Ae,Ae]
  congr 1
  by_cases q:k.x+i<k.n
  .rw[if_pos q,if_pos q,Ad (by omega)]
  .rw[if_neg q,if_neg q]
 .rcases h with ⟨_,h⟩|h
  .rw[h];rfl
  .congr 1
   funext p
   congr 1
   rw[Ae,Ae]
   split
   .rw[Ad (by omega)]
   .rfl
theorem Kp.of_ex {k:Kp} {σ:St} {id:Nat} {o o':Ob} (hx:k.ex.contains id=true) (ho:σ[id]? =some o) (hk: ∀p,k.ob=some p->p.1=id->p.2 o'=p.2 o):k.of (σ.set id o')=k.of σ:=by
 unfold Kp.of
 congr 1
 .congr 1
  refine C4 fun i=> ?_
  rw[E0,E0,Ae,Ae]
  by_cases q1:i<k.n
  .rw[if_pos q1,if_pos q1]
   by_cases q:id=i
   .subst q
    obtain⟨hl,_⟩:=A1.1 ho
    rw[Ak hl,ho]
    simp only[B3,hx,if_true]
   .rw[Ad q]
  .rw[if_neg q1,if_neg q1]
 .cases hob:k.ob with
  |none=>rfl
  |some p=>
   simp only[As]
   rw[Ae,Ae]
   split
   .by_cases q:p.1=id
    .obtain⟨hl,_⟩:=A1.1 ho
     rw[q,Ak hl,ho]
     simp only[B3]
     rw[hk p hob q]
    .rw[Ad (fun h=>q h.symm)]
   .rfl
def zW1 (a b:Nat):Bool:=(a==4&&b !=0)||(b==4&&a !=0)||(a==3&&(b==3||b==2))||(b==3&&a==2)
def zu4 (ops:List Oper) (o:Oper):List Tmp:=(o.op.operands.toList.filterMap fun| .tmp t=>some t|_=>none)++(match o.guard with|some (j,_)=>(gdst ops j).toList|none=> [])++(o.dst.map (100000+ ·)).toList
def hok (P:Program) (d:Option Tmp) (e:Env) (op:Op):Prop:=zd1 e d=false∨ ∀e σ,wV P e σ op=evOp P e σ op
theorem zn8 {P:Program} {d:Option Tmp} {e:Env} {op:Op} (h:hok P d e op) (σ:St):xL P d e σ op=evOp P e σ op:=by
 unfold xL
 rcases h with h|h
 .rw[h];rfl
 .rw[h];simp
theorem yv0 {d:Option Tmp} {e e':Env} (h: ∀t,d=some t->e (100000+t)=e' (100000+t)):zd1 e d=zd1 e' d:=by
 cases d with
 |none=>rfl
 |some t=>simp only[zd1,h t rfl]
def befs:List Oper->List (List Nat)->List (List Nat)
 | [],acc=>acc
 |o::os,acc=>befs os (acc++ [((o.after.toList.filter (Region.binds .any)).flatMap fun e=>e.on::acc.getD e.on []).eraseDups])
def zK1 (ops:List Oper) (q:List (Nat×Nat)) (i j:Nat) (a b:Oper):Bool:=
 zW1 (zY q i a) (zY q j b)||
 (match a.dst with|some d=>(zu4 ops b).contains d||b.dst==some d|none=>false)||(match b.dst with|some d=>(zu4 ops a).contains d|none=>false)
def zy4 (ops:List Oper) (q:List (Nat×Nat)):Bool:=
 let b:=befs ops []
 (List.range ops.length).all fun j=>(List.range j).all fun i=>
  match ops[i]?,ops[j]? with
  |some x,some y=> !zK1 ops q i j x y||(b.getD j []).contains i
  |_,_=>true
def zc3 (ops:List Oper):Bool:=(List.range ops.length).all fun j=>match ops[j]? with|some o=>o.after.all fun e=> !Region.binds .any e||decide (e.on<j)|none=>true
section
variable {P:Program} {c:Ctx} {nt:Nat} {n0:Kp}
theorem yU5 (ops:List Oper) (D:Nat->Prop) (hD: ∀(j:Nat) o,ops[j]? =some o->D j-> ∀e∈o.after.toList,Region.binds .any e=true->D e.on):
  ∀(rest pre:List Oper) (acc:List (List Nat)),ops=pre++rest->acc.length=pre.length->(∀j l,acc[j]? =some l->D j-> ∀i∈l,D i)->
   ∀j l,(befs rest acc)[j]? =some l->D j-> ∀i∈l,D i
 | [],_,acc,_,_,h=>h
 |o::rest,pre,acc,hops,hlen,h=>by
  rw[befs]
  refine yU5 ops D hD rest (pre++ [o]) _ (by rw[hops];simp) (by simp[hlen]) fun j l hj hDj i hi=> ?_
  rcases getElem?_push hj with ⟨_,hj⟩|⟨hj,hl⟩
  .exact h j l hj hDj i hi
  .have hjl:j=pre.length:=by omega
   rw[hl]at hi
   have hi':=List.mem_eraseDups.1 hi
   rw[List.mem_flatMap]at hi'
   obtain⟨e,he,hi'⟩:=hi'
   rw[B9]at he
   have ho:ops[j]? =some o:=by rw[hops,hjl];simp
   have hDe:=hD j o ho hDj e he.1 he.2
   rcases Ag.1 hi' with hq|hq
   .rw[hq];exact hDe
   .rw[A5]at hq
    cases hacc:acc[e.on]? with
    |none=>rw[hacc]at hq;simp at hq
    |some l'=>rw[hacc]at hq;exact h e.on l' hacc hDe i (by simpa using hq)
def imm (n0:Kp):V->Bool
 | .ptr id _=>n0.has id
 | .lsp id _ _ _ _=>n0.has id
 |_=>true
def KeepN (n0:Kp) (σ σ':St):Prop:=(∃ext,σ'=σ++ext)∨n0.of σ'=n0.of σ
theorem KeepN.refl {n0:Kp} {σ:St}:KeepN n0 σ σ:= .inr rfl
def Fact (P:Program) (c:Ctx) (nt:Nat) (n0:Kp) (ops:List Oper) (q:List (Nat×Nat)) (i:Nat) (o:Oper) (e:Env) (σ:St) (v:V) (σ':St):Prop:=
 (∀t,o.dst=some t->t<nt)/\(zY q i o<3->σ'=σ)/\(zY q i o=3->KeepN n0 σ σ')/\σ.length<=σ'.length/\
 ∃g:Bool,(match o.guard with|none=>g=true|some (j,want)=> ∃t,gdst ops j=some t/\((∃b,e t= .bool b/\g=(b==want))∨(e t= .tup []/\g=false)))/\
  (if g then(match o.op with
   | .call ⟨.value f,args,_⟩=>(if zY q i o=0 then∀s,VC P c (zF e f) (args.toList.map (zF e)) s (fun r s'=>r=v/\s'=s)else if zY q i o=1 then∀s,n0.of s=n0.of σ->VC P c (zF e f) (args.toList.map (zF e)) s (fun r s'=>r=v/\s'=s)else VC P c (zF e f) (args.toList.map (zF e)) σ (fun r s=>r=v/\s=σ'))
   |op=>(zY q i o<3->hok P o.dst e op)/\(zY q i o=0->zd3 op=0)/\(zY q i o=1->(∃t x,op= .load t x/\imm n0 (zF e x)=true)∨(∀t x,op≠ .load t x)/\ ∀s,n0.of s=n0.of σ->evOp P e s op=evOp P e σ op)/\
    ((xL P o.dst e σ op= .ok v/\σ'=σ)∨(∃p,xL P o.dst e σ op= .need p v/\p/\σ'=σ)∨(3<=zY q i o/\(xL P o.dst e σ op= .st v σ'∨ ∃p,xL P o.dst e σ op= .needst p v σ'/\p))))
   else v= .tup []/\σ'=σ)
def updO (e:Env) (d:Option Tmp) (v:V):Env:=match d with|some t=>upd e t v|none=>e
def zt3 (P:Program) (c:Ctx) (nt:Nat) (n0:Kp) (ops:List Oper) (q:List (Nat×Nat)):Nat->List Oper->Env->St->List (V×St)->Prop
 |_,[],_,_,[]=>True
 |i,o::os,e,σ,(v,σ')::tr=>Fact P c nt n0 ops q i o e σ v σ'/\zt3 P c nt n0 ops q (i+1) os (updO e o.dst v) σ' tr
 |_,_,_,_,_=>False
def fE (D:Nat->Bool):Nat->List Oper->List (V×St)->Env->Env
 |i,o::os,(v,_)::tr,e=>fE D (i+1) os tr (if D i then updO e o.dst v else e)
 |_,_,_,e=>e
def fS (D:Nat->Bool) (q:List (Nat×Nat)):Nat->List Oper->List (V×St)->St->St
 |i,o::os,(_,σ')::tr,s=>fS D q (i+1) os tr (if D i&&decide (3<=zY q i o)then σ' else s)
 |_,_,_,s=>s
theorem zi4 (e:Env) (d:Option Tmp) (v:V) (t:Tmp) (h:d=some t):updO e d v t=v:=by subst h;simp[updO,upd]
theorem ze8 (e:Env) (d:Option Tmp) (v:V) (t:Tmp) (h:d≠some t):updO e d v t=e t:=by
 cases d with
 |none=>rfl
 |some d=>simp only[updO,upd];rw[if_neg (fun q=>h (by rw[q]))]
theorem ze0 (D D':Nat->Bool) (t:Tmp): ∀(os:List Oper) (tr:List (V×St)) (i:Nat) (e e':Env),e t=e' t->(∀(k:Nat) o,os[k]? =some o->o.dst=some t->D (i+k)=D' (i+k))->fE D i os tr e t=fE D' i os tr e' t
 | [],_,_,_,_,h,_=>by simpa[fE]using h
 |o::os,[],_,_,_,h,_=>by simpa[fE]using h
 |o::os,(v,s)::tr,i,e,e',h,hD=>by
  rw[fE,fE]
  refine ze0 D D' t os tr (i+1) _ _ ?_ (fun k o' hk hd=>by have:=hD (k+1) o' (by simpa using hk) hd;rwa [show i+(k+1)=i+1+k by omega]at this)
  by_cases hd:o.dst=some t
  .have:=hD 0 o rfl hd
   rw[Cb]at this
   rw[this]
   split
   .rw[zi4 _ _ _ _ hd,zi4 _ _ _ _ hd]
   .exact h
  .have e1:(if D i=true then updO e o.dst v else e) t=e t:=by split<;>simp[ze8 _ _ _ _ hd]
   have e2:(if D' i=true then updO e' o.dst v else e') t=e' t:=by split<;>simp[ze8 _ _ _ _ hd]
   rw[e1,e2,h]
theorem zY5 (D:Nat->Bool) (t:Tmp) (os:List Oper) (tr:List (V×St)) (i:Nat) (e:Env) (h: ∀(k:Nat) o,os[k]? =some o->o.dst=some t->D (i+k)=false):fE D i os tr e t=e t:=by
 have h1:=ze0 D (fun _=>false) t os tr i e e rfl (fun k o hk hd=>h k o hk hd)
 rw[h1]
 clear h h1
 induction os generalizing tr i with
 |nil=>simp[fE]
 |cons o os ih=>cases tr with
  |nil=>simp[fE]
  |cons x tr=>obtain⟨v,s⟩:=x;rw[fE];simpa using ih tr (i+1)
theorem zC0 (D:Nat->Bool) (t:Tmp): ∀(os:List Oper) (tr:List (V×St)) (i k:Nat) (e:Env) (o:Oper) (v:V) (s:St),os[k]? =some o->tr[k]? =some (v,s)->o.dst=some t->D (i+k)=true->(∀(k':Nat) o',k<k'->os[k']? =some o'->o'.dst=some t->D (i+k')=false)->fE D i os tr e t=v
 | [],_,_,_,_,_,_,_,h,_,_,_,_=>by simp at h
 |_::_,[],_,_,_,_,_,_,_,h,_,_,_=>by simp at h
 |o1::os,(v1,s1)::tr,i,0,e,o,v,s,h1,h2,hd,hD,hl=>by
  simp at h1 h2
  obtain⟨rfl,rfl⟩:=h2
  subst h1
  rw[fE,if_pos (by simpa using hD),zY5]
  .exact zi4 _ _ _ _ hd
  .intro k o' hk hd'
   have:=hl (k+1) o' (by omega) (by simpa using hk) hd'
   rwa [show i+1+k=i+(k+1) by omega]
 |o1::os,(v1,s1)::tr,i,k+1,e,o,v,s,h1,h2,hd,hD,hl=>by
  rw[fE]
  refine zC0 D t os tr (i+1) k _ o v s (by simpa using h1) (by simpa using h2) hd (by rwa [show i+1+k=i+(k+1) by omega]) fun k' o' hk' ho' hd'=> ?_
  have:=hl (k'+1) o' (by omega) (by simpa using ho') hd'
  rwa [show i+1+k'=i+(k'+1) by omega]
theorem zh2 (D D':Nat->Bool) (q:List (Nat×Nat)): ∀(os:List Oper) (tr:List (V×St)) (i:Nat) (s:St),(∀(k:Nat) o,os[k]? =some o->3<=zY q (i+k) o->D (i+k)=D' (i+k))->fS D q i os tr s=fS D' q i os tr s
 | [],_,_,_,_=>by simp[fS]
 |o::os,[],_,_,_=>by simp[fS]
 |o::os,(v,σ')::tr,i,s,h=>by
  rw[fS,fS]
  have e1:(if(D i&&decide (3<=zY q i o))=true then σ' else s)=(if(D' i&&decide (3<=zY q i o))=true then σ' else s):=by
   by_cases hk:3<=zY q i o
   .have:=h 0 o rfl (by rw[Cb];exact hk)
    rw[Cb]at this
    rw[this]
   .simp[hk]
  rw[e1]
  exact zh2 D D' q os tr (i+1) _ (fun k o' hk hd=>by have:=h (k+1) o' (by simpa using hk) (by rwa [show i+(k+1)=i+1+k by omega]);rwa [show i+(k+1)=i+1+k by omega]at this)
theorem zw6 (D:Nat->Bool) (q:List (Nat×Nat)) (os:List Oper) (tr:List (V×St)) (i:Nat) (s:St) (h: ∀(k:Nat) o,os[k]? =some o->3<=zY q (i+k) o->D (i+k)=false):fS D q i os tr s=s:=by
 have h1:=zh2 D (fun _=>false) q os tr i s h
 rw[h1]
 clear h h1
 induction os generalizing tr i with
 |nil=>simp[fS]
 |cons o os ih=>cases tr with
  |nil=>simp[fS]
  |cons x tr=>obtain⟨v,s'⟩:=x;rw[fS];simpa using ih tr (i+1)
theorem zI8 (D:Nat->Bool) (q:List (Nat×Nat)): ∀(os:List Oper) (tr:List (V×St)) (i k:Nat) (s:St) (o:Oper) (v:V) (σ':St),os[k]? =some o->tr[k]? =some (v,σ')->3<=zY q (i+k) o->D (i+k)=true->(∀(k':Nat) o',k<k'->os[k']? =some o'->3<=zY q (i+k') o'->D (i+k')=false)->fS D q i os tr s=σ'
 | [],_,_,_,_,_,_,_,h,_,_,_,_=>by simp at h
 |_::_,[],_,_,_,_,_,_,_,h,_,_,_=>by simp at h
 |o1::os,(v1,s1)::tr,i,0,s,o,v,σ',h1,h2,hd,hD,hl=>by
  simp at h1 h2
  obtain⟨rfl,rfl⟩:=h2
  subst h1
  rw[Cb]at hd hD
  rw[fS,if_pos (by simp[hd,hD]),zw6]
  intro k o' hk hd'
  have:=hl (k+1) o' (by omega) (by simpa using hk) (by rwa [show i+(k+1)=i+1+k by omega])
  rwa [show i+1+k=i+(k+1) by omega]
 |o1::os,(v1,s1)::tr,i,k+1,s,o,v,σ',h1,h2,hd,hD,hl=>by
  rw[fS]
  refine zI8 D q os tr (i+1) k _ o v σ' (by simpa using h1) (by simpa using h2) (by rwa [show i+1+k=i+(k+1) by omega]) (by rwa [show i+1+k=i+(k+1) by omega]) fun k' o' hk' ho' hd'=> ?_
  have:=hl (k'+1) o' (by omega) (by simpa using ho') (by rwa [show i+(k'+1)=i+1+k' by omega])
  rwa [show i+1+k'=i+(k'+1) by omega]
theorem zA7 (ops:List Oper) (q:List (Nat×Nat)): ∀(os:List Oper) (tr:List (V×St)) (i:Nat) (e:Env) (σ:St),zt3 P c nt n0 ops q i os e σ tr->
  tr.length=os.length/\ ∀(k:Nat) o,os[k]? =some o-> ∃v σ',tr[k]? =some (v,σ')/\Fact P c nt n0 ops q (i+k) o (fE (fun j=>decide (j<i+k)) i os tr e) (fS (fun j=>decide (j<i+k)) q i os tr σ) v σ'
 | [],[],_,_,_,_=>⟨rfl,fun k o h=>by simp at h⟩
 | [],_::_,_,_,_,h=>h.elim
 |_::_,[],_,_,_,h=>h.elim
 |o::os,(v,σ')::tr,i,e,σ,⟨hf,ht⟩=>by
  obtain⟨hl,hat⟩:=zA7 ops q os tr (i+1) _ _ ht
  refine⟨by simp[hl],fun k o' hk=> ?_⟩
  cases k with
  |zero=>
   simp at hk
   subst hk
   refine⟨v,σ',rfl, ?_⟩
   rw[Cb,fE,fS]
   have h1:(if(fun j=>decide (j<i)) i=true then updO e o.dst v else e)=e:=by simp
   have h2:(if((fun j=>decide (j<i)) i&&decide (3<=zY q i o))=true then σ' else σ)=σ:=by simp
   rw[h1,h2]
   have e1:fE (fun j=>decide (j<i)) (i+1) os tr e=e:=by
    funext t
    exact zY5 _ t os tr (i+1) e (fun k o' _ _=>by simp;omega)
   have e2:fS (fun j=>decide (j<i)) q (i+1) os tr σ=σ:=zw6 _ q os tr (i+1) σ (fun k o' _ _=>by simp;omega)
   rw[e1,e2]
   exact hf
  |succ k=>
   obtain⟨v2,s2,h1,h2⟩:=hat k o' (by simpa using hk)
   refine⟨v2,s2,by simpa using h1, ?_⟩
   rw[show i+(k+1)=i+1+k by omega]
   rw[fE,fS,if_pos (by simp;omega)]
   have hs:(if((fun j=>decide (j<i+1+k)) i&&decide (3<=zY q i o))=true then σ' else σ)=σ':=by
    by_cases hk2:3<=zY q i o
    .rw[if_pos (by simp[hk2];omega)]
    .rw[if_neg (by simp[hk2])]
     exact(hf.2.1 (by omega)).symm
   rw[hs]
   exact h2
theorem zL7 {e e':Env} {σ:St} (op:Op) (h: ∀x∈op.operands.toList,zF e x=zF e' x):evOp P e σ op=evOp P e' σ op:=by
 have hl: ∀l:List Operand,(∀x∈l,zF e x=zF e' x)->l.map (zF e)=l.map (zF e'):=fun l hl=>Bm hl
 have pairs: ∀ps:List (Nat×Operand),(∀x∈ps.map (·.2),zF e x=zF e' x)->(ps.map fun p=>(p.1,zF e p.2))=(ps.map fun p=>(p.1,zF e' p.2)):=fun ps hp=>
  Bm fun p hm=>by rw[hp p.2 (Ac.2 ⟨p,hm,rfl⟩)]
 cases op with
 |build t ps=>simp only[evOp];rw[pairs ps.toList (fun x hx=>h x (by simpa[Op.operands]using hx))]
 |buildSlice t n ps=>simp only[evOp];rw[pairs ps.toList (fun x hx=>h x (by simpa[Op.operands]using hx))]
 |makeFunc fn first caps=>simp only[evOp];rw[hl caps.toList (fun x hx=>h x (by simp only[Op.operands,Array.toList_append,B4];exact .inr hx))]
 |slice t x lo hi mx=>cases lo<;>cases hi<;>cases mx<;>simp_all[evOp,Op.operands]
 |makeMap t r=>cases r<;>simp_all[evOp,Op.operands]
 |next x b=>cases b<;>simp_all[evOp,Op.operands]
 |call cl=>
  obtain⟨cal,args,ts⟩:=cl
  cases cal with
  |builtin b=>
   have h': ∀x∈args.toList,zF e x=zF e' x:=fun x hx=>h x (by simpa[Op.operands,Call.operands]using hx)
   obtain⟨args⟩:=args
   cases b<;>simp only[evOp]
   case min=>rw[hl args h']
   case max=>rw[hl args h']
   all_goals (split<;>simp_all)
  |_=>simp only[evOp]
 |_=>first|rfl|(simp_all[evOp,Op.operands];done)
theorem yD5 {e e':Env} {σ:St} (op:Op) (h: ∀x∈op.operands.toList,zF e x=zF e' x):wV P e σ op=wV P e' σ op:=by
 have hc:=zL7 (P:=P) (σ:=σ) op h
 have pairs: ∀ps:List (Nat×Operand),(∀x∈ps.map (·.2),zF e x=zF e' x)->(ps.map fun p=>(p.1,zF e p.2))=(ps.map fun p=>(p.1,zF e' p.2)):=fun ps hp=>
  Bm fun p hm=>by rw[hp p.2 (Ac.2 ⟨p,hm,rfl⟩)]
 cases op with
 |buildSlice t n ps=>simp only[wV];rw[pairs ps.toList (fun x hx=>h x (by simpa[Op.operands]using hx))]
 |makeSlice t l m=>simp_all[wV,Op.operands]
 |convert t t' x=>simp_all[wV,Op.operands]
 |slice t x lo hi mx=>
  cases lo with
  |none=>exact hc
  |some lo=>cases hi with
   |some _=>exact hc
   |none=>cases mx with
    |some _=>exact hc
    |none=>simp_all[wV,Op.operands]
 |next x b=>cases b<;>simp_all[wV,Op.operands]
 |call cl=>
  obtain⟨cal,args,ts⟩:=cl
  cases cal with
  |builtin b=>
   have h': ∀x∈args.toList,zF e x=zF e' x:=fun x hx=>h x (by simpa[Op.operands,Call.operands]using hx)
   obtain⟨args⟩:=args
   cases b
   case append=>simp only[wV];split<;>simp_all
   all_goals exact hc
  |_=>exact hc
 |_=>exact hc
theorem yD4 {e e':Env} {σ:St} {d:Option Tmp} (op:Op) (hd:zd1 e d=zd1 e' d) (h: ∀x∈op.operands.toList,zF e x=zF e' x):xL P d e σ op=xL P d e' σ op:=by
 unfold xL
 rw[hd,zL7 op h,yD5 op h]
theorem xp2 {e:Env} {σ σ':St} (o:Oper) (hc: ∀f as ts,o.op≠ .call ⟨.value f,as,ts⟩) (h:zd3 o.op=0):evOp P e σ o.op=evOp P e σ' o.op:=by
 obtain⟨dst,op,ty,pos,aft,g⟩:=o
 simp only at h hc⊢
 cases op with
 |call cl=>
  obtain⟨cal,args,ts⟩:=cl
  cases cal with
  |builtin b=>obtain⟨args⟩:=args;cases b<;>first|(simp[zd3]at h;done)|(simp only[evOp];done)|(simp only[evOp];split<;>first|rfl|contradiction|(rename_i heq;simp at heq))
  |value f=>exact absurd rfl (hc f args ts)
  |_=>simp only[evOp]
 |slice t x lo hi mx=>cases lo<;>cases hi<;>cases mx<;>rfl
 |_=>first|rfl|(simp[zd3]at h;done)
section
variable {e:Env} {σ:St} {a:Act} {w:World} {L:Nat->Nat} {β:List Value}
theorem zQ5 {ops:List Oper} {Q:Exit->Act->World->Prop} {next:Act->World->Prop} (o:Oper) {K:Env->St->Prop} (h:Sim c nt e σ a w L β) (hK:vgd o.guard ops e (vop P c nt o.dst o.op K e σ) (vput nt o.dst (.tup []) K e σ))
  (hn: ∀e' σ' a' w' L' β',Sim c nt e' σ' a' w' L' β'->K e' σ'->next a' w'):
  if Region.wanted o (yielded ops.toArray a.tmps)then o.wp P a w next Q∨(o.asks P a w/\LetsOut Q)else next (a.put o.dst undef) w:=by
 have no:vput nt o.dst (.tup []) K e σ->next (a.put o.dst undef) w:=fun hv=>by
  obtain⟨e',hs,hk⟩:=zA8 h h.mem (Le.refl _ _) (Ext.refl _ _) (show RdS w L σ β (.tup []) undef from⟨[],rfl,trivial⟩) hv
  exact hn _ _ _ _ _ _ hs hk
 unfold vgd at hK
 split at hK
 .rename_i hg
  rw[if_pos (by simp[Region.wanted,hg])]
  exact .inl (yz1 o h hK hn)
 .rename_i j want hg
  split at hK
  .rename_i t ht
   have hv:=h.env t
   unfold vgrd at hK
   split at hK
   .rename_i b hb
    rw[hb]at hv
    have hv:=zc8 hv
    have hy:yielded ops.toArray a.tmps j=some b:=by
     unfold yielded
     unfold gdst at ht
     have ht':(ops.toArray[j]?).bind (·.dst)=some t:=by simpa using ht
     rw[ht']
     simp only[As]
     have htl:t<a.tmps.size:=by
      rcases Cf t a.tmps.size with q|q
      .exact q
      .simp[Array.getD,Nat.not_lt.2 q,undef]at hv
     rw[Ar htl]
     simp[Array.getD,htl]at hv
     rw[hv]
    by_cases hbw:b=want
    .rw[if_pos (by simp[Region.wanted,hg,hy,hbw])]
     exact .inl (yz1 o h (hK.1 hbw) hn)
    .rw[if_neg (by simp[Region.wanted,hg,hy,hbw])]
     exact no (hK.2 hbw)
   .rename_i hb
    rw[hb]at hv
    rw[if_neg (by simp[Region.wanted,hg,zX5 ht hv])]
    exact no hK
   .exact hK.elim
  .exact hK.elim
theorem zq4 {d:Option Tmp} {v:V} {K:Env->St->Prop} (hd: ∀t,d=some t->t<nt) (h:K (updO e d v) σ):vput nt d v K e σ:=by
 cases d with
 |none=>exact h
 |some t=>exact⟨hd t rfl,h⟩
theorem yN6 {t:TypeId} {S:St} {x:V} (h:imm n0 x=true) (ht:n0.of σ=n0.of S):zg9 P t σ x=zg9 P t S x:=by
 cases x with
 |ptr id off=>
  have:σ[id]? =S[id]? :=Kp.get h ht
  simp only[zg9,this]
 |lsp id s n k j=>
  have:σ[id]? =S[id]? :=Kp.get h ht
  simp only[zg9,this]
 |_=>rfl
theorem Fact.step {ops:List Oper} {q:List (Nat×Nat)} {i:Nat} {o:Oper} {E:Env} {S:St} {v:V} {σ':St} (hf:Fact P c nt n0 ops q i o E S v σ') (he: ∀t∈zu4 ops o,e t=E t) (hs:2<=zY q i o->σ=S) (h1:zY q i o=1->n0.of σ=n0.of S):
  vgd o.guard ops e (vop P c nt o.dst o.op (fun e' s'=>e'=updO e o.dst v/\s'=if 3<=zY q i o then σ' else σ) e σ) (vput nt o.dst (.tup []) (fun e' s'=>e'=updO e o.dst v/\s'=if 3<=zY q i o then σ' else σ) e σ):=by
 obtain⟨hd,hk2,_,_,g,hg,hb⟩:=hf
 have hev: ∀x∈o.op.operands.toList,zF e x=zF E x:=fun x hx=>by
  cases x with
  |tmp t=>exact he t (Dd _ (Dd _ (List.mem_filterMap.2 ⟨.tmp t,hx,rfl⟩)))
  |_=>rfl
 have keep:σ'=S->(if 3<=zY q i o then σ' else σ)=σ:=fun h=>by
  split
  .rename_i h2;rw[h];exact(hs (by omega)).symm
  .rfl
 have yes:g=true->vop P c nt o.dst o.op (fun e' s'=>e'=updO e o.dst v/\s'=if 3<=zY q i o then σ' else σ) e σ:=by
  intro hgt
  rw[if_pos hgt]at hb
  unfold vop
  split
  .rename_i f args ts hop
   rw[hop]at hb hev
   simp only at hb
   have hi1:=h1
   have h1:zF e f=zF E f:=hev f (by simp[Op.operands,Call.operands])
   have h2:args.toList.map (zF e)=args.toList.map (zF E):=Bm fun x hx=>hev x (by simp[Op.operands,Call.operands];exact .inr (by simpa using hx))
   rw[h1,h2]
   split at hb
   .rename_i hk0
    refine(hb σ).mono ?_
    rintro x s' ⟨rfl,rfl⟩
    exact zq4 hd ⟨rfl,by rw[if_neg (by omega)]⟩
   .rename_i hk0
    split at hb
    .rename_i hk1
     refine(hb σ (hi1 hk1)).mono ?_
     rintro x s' ⟨rfl,rfl⟩
     exact zq4 hd ⟨rfl,by rw[if_neg (by omega)]⟩
    rename_i hk1
    rw[hs (by omega)]
    refine hb.mono ?_
    rintro x s' ⟨rfl,rfl⟩
    refine zq4 hd ⟨rfl, ?_⟩
    split
    .rfl
    .rename_i h2;exact hk2 (by omega)
  .rename_i hno
   have hb':(zY q i o<3->hok P o.dst E o.op)/\(zY q i o=0->zd3 o.op=0)/\(zY q i o=1->(∃t x,o.op= .load t x/\imm n0 (zF E x)=true)∨(∀t x,o.op≠ .load t x)/\ ∀s,n0.of s=n0.of S->evOp P E s o.op=evOp P E S o.op)/\((xL P o.dst E S o.op= .ok v/\σ'=S)∨(∃p,xL P o.dst E S o.op= .need p v/\p/\σ'=S)∨(3<=zY q i o/\(xL P o.dst E S o.op= .st v σ'∨ ∃p,xL P o.dst E S o.op= .needst p v σ'/\p))):=by
    split at hb
    .rename_i f args ts hop;exact absurd hop (hno f args ts)
    .exact hb
   obtain⟨hh,hz,ho,hb'⟩:=hb'
   have hin:zd1 e o.dst=zd1 E o.dst:=yv0 fun t ht=>he (100000+t) (by
    unfold zu4
    rw[ht]
    exact List.mem_append_right _ (by simp))
   have hsame:xL P o.dst e σ o.op=xL P o.dst E S o.op:=by
    by_cases h3:zY q i o<3
    .have hh1:=hh h3
     have hh2:hok P o.dst e o.op:=by
      unfold hok at hh1⊢
      rw[hin];exact hh1
     rw[zn8 hh2,zn8 hh1,zL7 o.op hev]
     by_cases h0:zY q i o=0
     .exact xp2 o hno (hz h0)
     .by_cases hk1:zY q i o=1
      .rcases ho hk1 with ⟨t,x,hop,him⟩|⟨_,him⟩
       .rw[hop]
        exact yN6 him (h1 hk1)
       .exact him σ (h1 hk1)
      .rw[hs (by omega)]
    .rw[yD4 o.op hin hev,hs (by omega)]
   rw[hsame]
   rcases hb' with ⟨hr,hq⟩|⟨p,hr,hp,hq⟩|⟨h2,hr|⟨p,hr,hp⟩⟩
   .rw[hr];exact zq4 (K:=(fun e' s'=>e'=updO e o.dst v/\s'=if 3<=zY q i o then σ' else σ)) hd ⟨rfl,(keep hq).symm⟩
   .rw[hr];exact⟨hp,zq4 (K:=(fun e' s'=>e'=updO e o.dst v/\s'=if 3<=zY q i o then σ' else σ)) hd ⟨rfl,(keep hq).symm⟩⟩
   .rw[hr]
    show vput nt o.dst v (fun e' s'=>e'=updO e o.dst v/\s'=if 3<=zY q i o then σ' else σ) e σ'
    exact zq4 (K:=(fun e' s'=>e'=updO e o.dst v/\s'=if 3<=zY q i o then σ' else σ)) hd ⟨rfl,by rw[if_pos h2]⟩
   .rw[hr]
    show p/\vput nt o.dst v (fun e' s'=>e'=updO e o.dst v/\s'=if 3<=zY q i o then σ' else σ) e σ'
    exact⟨hp,zq4 (K:=(fun e' s'=>e'=updO e o.dst v/\s'=if 3<=zY q i o then σ' else σ)) hd ⟨rfl,by rw[if_pos h2]⟩⟩
 have no:g=false->vput nt o.dst (.tup []) (fun e' s'=>e'=updO e o.dst v/\s'=if 3<=zY q i o then σ' else σ) e σ:=by
  intro hgf
  rw[if_neg (by simp[hgf])]at hb
  obtain⟨rfl,hq⟩:=hb
  exact zq4 hd ⟨rfl,(keep hq).symm⟩
 unfold vgd
 split
 .rename_i hgn;rw[hgn]at hg;exact yes hg
 .rename_i j want hgs
  rw[hgs]at hg
  obtain⟨t,ht,hcase⟩:=hg
  rw[ht]
  simp only
  have:e t=E t:=he t (Dd _ (List.mem_append_right _ (by rw[hgs];simp[ht])))
  rcases hcase with ⟨b,hEt,hgb⟩|⟨hEt,hgb⟩
  .rw[this,hEt]
   exact⟨fun hbw=>yes (by simp[hgb,hbw]),fun hbw=>no (by simp[hgb,hbw])⟩
  .rw[this,hEt]
   exact no hgb
end
theorem yS {ops:List Oper} {q:List (Nat×Nat)} {i j:Nat} {a b:Oper} (h:zK1 ops q i j a b=false):
  zW1 (zY q i a) (zY q j b)=false/\(∀d,a.dst=some d->d∉zu4 ops b/\b.dst≠some d)/\(∀d,b.dst=some d->d∉zu4 ops a):=by
 unfold zK1 at h
 simp only[Bool.or_eq_false_iff]at h
 obtain⟨⟨h1,h3⟩,h4⟩:=h
 refine⟨h1,fun d hd=> ?_,fun d hd=> ?_⟩
 .rw[hd]at h3;simp at h3
  exact⟨h3.1,h3.2⟩
 .rw[hd]at h4;simpa using h4
theorem xU (q:List (Nat×Nat)) (i:Nat) (o:Oper):zY q i o<=4:=by
 unfold zY
 split
 .exact Nat.min_le_right _ _
 .unfold zd3
  split<;>decide
theorem zl8 {a b:Nat} (ha:3<=a) (ha4:a<=4) (hb:2<=b) (hb4:b<=4):zW1 a b=true:=by
 have h1:a=3∨a=4:=by omega
 have h2:b=2∨b=3∨b=4:=by omega
 rcases h1 with rfl|rfl<;>rcases h2 with rfl|rfl|rfl<;>rfl
theorem zC2 (a b:Nat):zW1 a b=zW1 b a:=by
 unfold zW1
 cases h1:a==4<;>cases h2:b==4<;>cases h3:a==3<;>cases h4:b==3<;>cases h5:a==2<;>cases h6:b==2<;>cases h7:a==0<;>cases h8:b==0<;>simp_all
theorem zC3 {b:Nat} (hb:1<=b):zW1 4 b=true:=by
 unfold zW1
 simp;omega
theorem yU1 {ops:List Oper} {q:List (Nat×Nat)} {e0:Env} {σ0:St} {tr:List (V×St)} (ht:zt3 P c nt n0 ops q 0 ops e0 σ0 tr) (hn:n0.n<=σ0.length):
  ∀(d j:Nat),j+d<=ops.length->(∀(m:Nat) o,j<=m->m<j+d->ops[m]? =some o->zY q m o≠4)->
   n0.n<=(fS (fun x=>decide (x<j)) q 0 ops tr σ0).length/\n0.of (fS (fun x=>decide (x<j+d)) q 0 ops tr σ0)=n0.of (fS (fun x=>decide (x<j)) q 0 ops tr σ0):=by
 obtain⟨_,hat⟩:=zA7 ops q ops tr 0 e0 σ0 ht
 have next: ∀k,k<ops.length-> ∃o v σ',ops[k]? =some o/\Fact P c nt n0 ops q k o (fE (fun j=>decide (j<k)) 0 ops tr e0) (fS (fun j=>decide (j<k)) q 0 ops tr σ0) v σ'/\fS (fun j=>decide (j<k+1)) q 0 ops tr σ0=σ':=by
  intro k hk
  obtain⟨v,σ',htr,hf⟩:=hat k ops[k] (A0 hk)
  rw[Aa]at hf
  refine⟨ops[k],v,σ',A0 hk,hf, ?_⟩
  by_cases h3:3<=zY q k ops[k]
  .refine zI8 _ q ops tr 0 k σ0 ops[k] v σ' (A0 hk) htr (by rw[Aa];exact h3) (by simp) fun k' o' hk' _ _=>by simp;omega
  .have:=hf.2.1 (by omega)
   rw[this]
   refine zh2 _ _ q ops tr 0 σ0 fun m o' hm hm3=> ?_
   rw[Aa]at hm3⊢
   by_cases hmk:m=k
   .subst hmk
    rw[A0 hk]at hm
    cases hm
    exact absurd hm3 h3
   .simp;omega
 have len: ∀j,j<=ops.length->n0.n<=(fS (fun x=>decide (x<j)) q 0 ops tr σ0).length:=by
  intro j
  induction j with
  |zero=>intro _;rw[zw6 _ q ops tr 0 σ0 (fun k o _ _=>by simp)];exact hn
  |succ j ih=>
   intro hj
   obtain⟨o,v,σ',_,hf,he⟩:=next j (by omega)
   rw[he]
   exact Ay (ih (by omega)) hf.2.2.2.1
 intro d
 induction d with
 |zero=>intro j hj _;exact⟨len j (by omega),rfl⟩
 |succ d ih=>
  intro j hj h4
  obtain⟨h1,h2⟩:=ih j (by omega) (fun m o h5 h6=>h4 m o h5 (by omega))
  refine⟨h1, ?_⟩
  obtain⟨o,v,σ',ho,hf,he⟩:=next (j+d) (by omega)
  rw[show j+(d+1)=j+d+1 by omega,he,<-h2]
  have hne:=h4 (j+d) o (by omega) (by omega) ho
  have hle:=xU q (j+d) o
  by_cases h3:zY q (j+d) o=3
  .rcases hf.2.2.1 h3 with ⟨ext,hx⟩|hx
   .rw[hx,Kp.of_append (len (j+d) (by omega))]
   .rw[hx]
  .rw[hf.2.1 (by omega)]
theorem zc6 {ops:List Oper} {q:List (Nat×Nat)} (h:zy4 ops q=true) {i j:Nat} {x y:Oper} (hij:i<j) (hx:ops[i]? =some x) (hy:ops[j]? =some y):
  zK1 ops q i j x y=false∨i∈(befs ops []).getD j []:=by
 unfold zy4 at h
 simp only[Af,C7]at h
 have:=h j (A1.1 hy).1 i hij
 rw[hx,hy]at this
 simp only[Bt,Ck,List.contains_iff_mem]at this
 exact this
theorem zg7 {ops:List Oper} {D:Nat->Bool} (hD: ∀(j:Nat) o,ops[j]? =some o->D j=true-> ∀e∈o.after.toList,Region.binds .any e=true->D e.on=true) {i j:Nat} (hi:i∈(befs ops []).getD j []) (hj:D j=true):D i=true:=by
 rw[A5]at hi
 cases hb:(befs ops [])[j]? with
 |none=>rw[hb]at hi;simp at hi
 |some l=>
  rw[hb]at hi
  exact yU5 ops (fun k=>D k=true) hD ops [] [] rfl rfl (fun j l h=>by simp at h) j l hb hj i (by simpa using hi)
theorem yn2 {l:Array Bool} {i:Nat} (h:l[i]? =some false):(l.setIfInBounds i true).toList.count false+1=l.toList.count false:=by
 obtain⟨l⟩:=l
 simp only[List.getElem?_toArray,List.setIfInBounds_toArray]at h⊢
 induction l generalizing i with
 |nil=>simp at h
 |cons b l ih=>
  cases i with
  |zero=>simp at h;subst h;simp
  |succ i=>
   simp at h
   have:=ih h
   simp only[C6,List.count_cons]
   omega
theorem xN5 {ops:List Oper} {q:List (Nat×Nat)} {Q:Exit->Env->St->Prop} {e0:Env} {σ0:St} {tr:List (V×St)} (hn:n0.n<=σ0.length) (hd:zy4 ops q=true) (hed:zc3 ops=true) (ht:zt3 P c nt n0 ops q 0 ops e0 σ0 tr)
  (hQ:Q .normal (fE (fun _=>true) 0 ops tr e0) (fS (fun _=>true) q 0 ops tr σ0)):
  ∀(fuel:Nat) (listed:Array Bool) (a:Act) (w:World) (L:Nat->Nat) (β:List Value),listed.size=ops.length->listed.toList.count false=fuel->
   (∀(j:Nat) o,ops[j]? =some o->listed.getD j false=true-> ∀e∈o.after.toList,Region.binds .any e=true->listed.getD e.on false=true)->
   Sim c nt (fE (fun i=>listed.getD i false) 0 ops tr e0) (fS (fun i=>listed.getD i false) q 0 ops tr σ0) a w L β->
   wpAny P .any ops.toArray (Lift c nt Q) fuel listed a w:=by
 obtain⟨htl,hat⟩:=zA7 ops q ops tr 0 e0 σ0 ht
 have fin: ∀(listed:Array Bool) (a:Act) (w:World) (L:Nat->Nat) (β:List Value),Sim c nt (fE (fun i=>listed.getD i false) 0 ops tr e0) (fS (fun i=>listed.getD i false) q 0 ops tr σ0) a w L β->
   (∀i,i<ops.length->listed.getD i false=true)->Lift c nt Q .normal a w:=by
  intro listed a w L β hs hall
  have e1:fE (fun i=>listed.getD i false) 0 ops tr e0=fE (fun _=>true) 0 ops tr e0:=by
   funext t
   exact ze0 _ _ t ops tr 0 e0 e0 rfl fun k o hk _=>by rw[Aa];exact hall k (A1.1 hk).1
  have e2:fS (fun i=>listed.getD i false) q 0 ops tr σ0=fS (fun _=>true) q 0 ops tr σ0:=
   zh2 _ _ q ops tr 0 σ0 fun k o hk _=>by rw[Aa];exact hall k (A1.1 hk).1
  rw[e1,e2]at hs
  exact⟨_,_,L,β,hs,hQ⟩
 have allOf: ∀(listed:Array Bool),listed.size=ops.length->Region.ready .any ops.toArray listed= []-> ∀i,i<ops.length->listed.getD i false=true:=by
  intro listed hsz hr i
  induction i using Nat.strongRecOn with
  |ind i ih=>
   intro hi
   cases hli:listed.getD i false with
   |true=>rfl
   |false=>
    exfalso
    have hm:i∈Region.ready .any ops.toArray listed:=by
     refine mem_ready.2 ⟨?_,ops[i],by simp[hi],fun e he hb=> ?_⟩
     .have hil:i<listed.size:=by omega
      simpa[Array.getD,hil]using hli
     .unfold zc3 at hed
      simp only[Af,C7]at hed
      have:=hed i hi
      rw[A0 hi]at this
      simp only[D3]at this
      have:=this e he
      simp only[hb,Bool.not_true,C8,decide_eq_true_eq]at this
      exact ih e.on this (by omega)
    rw[hr]at hm
    cases hm
 intro fuel
 induction fuel with
 |zero=>
  intro listed a w L β hsz hcnt hcl hs
  have hall: ∀i,i<ops.length->listed.getD i false=true:=by
   intro i hi
   have hil:i<listed.size:=by omega
   cases hli:listed[i]with
   |true=>simp[Array.getD,hil,hli]
   |false=>
    exfalso
    have:false∈listed.toList:=by
     rw[<-hli];simp
    have:=List.count_pos_iff.2 this
    omega
  refine⟨?_,fin listed a w L β hs hall⟩
  cases hr:Region.ready .any ops.toArray listed with
  |nil=>rfl
  |cons i l=>
   exfalso
   have hm:i∈Region.ready .any ops.toArray listed:=by rw[hr];simp
   obtain⟨h1,o,ho,_⟩:=mem_ready.1 hm
   have hi:i<ops.length:=(A1.1 (by simpa using ho)).1
   have:=hall i hi
   have hil:i<listed.size:=by omega
   simp[Array.getD,hil]at this h1
   rw[this]at h1
   cases h1
 |succ fuel ih=>
  intro listed a w L β hsz hcnt hcl hs
  refine⟨fun hr=>fin listed a w L β hs (allOf listed hsz hr),fun i hi=> ?_⟩
  obtain⟨h1,o,ho,hedge⟩:=mem_ready.1 hi
  have ho':ops[i]? =some o:=by simpa using ho
  have hil:i<listed.size:=by rw[hsz];exact(A1.1 ho').1
  have hDi:listed.getD i false=false:=by
   simp[Array.getD,hil]at h1⊢;exact h1
  have hne: ∀k,k≠i->(listed.setIfInBounds i true).getD k false=listed.getD k false:=fun k hk=>getD_set_ne false (fun q=>hk q.symm)
  have hii:(listed.setIfInBounds i true).getD i false=true:=by simp[Array.getD,hil]
  have hcl': ∀(j:Nat) o,ops[j]? =some o->(listed.setIfInBounds i true).getD j false=true-> ∀e∈o.after.toList,Region.binds .any e=true->(listed.setIfInBounds i true).getD e.on false=true:=by
   intro j o' hj hDj e he hb
   by_cases hji:j=i
   .subst hji
    rw[ho']at hj
    cases hj
    exact getD_set_true (hedge e (by simpa using he) hb)
   .rw[hne j hji]at hDj
    exact getD_set_true (hcl j o' hj hDj e he hb)
  have ahead: ∀{k:Nat},k≠i->k∈(befs ops []).getD i []->listed.getD k false=true:=fun{k} hk hb=>by
   have:=zg7 (D:=fun j=>(listed.setIfInBounds i true).getD j false) hcl' hb hii
   rwa [hne k hk]at this
  have zb2: ∀{k:Nat},i∈(befs ops []).getD k []->listed.getD k false=false:=fun{k} hb=>by
   cases hk:listed.getD k false with
   |false=>rfl
   |true=>
    have:=zg7 (D:=fun j=>listed.getD j false) hcl hb hk
    rw[hDi]at this;cases this
  obtain⟨v,σ',htr,hfact⟩:=hat i o ho'
  rw[Aa]at hfact
  have henv: ∀t∈zu4 ops o,fE (fun i=>listed.getD i false) 0 ops tr e0 t=fE (fun j=>decide (j<i)) 0 ops tr e0 t:=by
   intro t htl
   refine ze0 _ _ t ops tr 0 e0 e0 rfl fun k o' hk hdk=> ?_
   rw[Aa]
   rcases Bi k i with hki|hki|hki
   .rw[decide_eq_true hki]
    rcases zc6 hd hki hk ho' with hc|hb
    .exact absurd htl ((yS hc).2.1 t hdk).1
    .exact ahead (by omega) hb
   .subst hki;rw[hDi];simp
   .rw[decide_eq_false (by omega)]
    rcases zc6 hd hki ho' hk with hc|hb
    .exact absurd htl ((yS hc).2.2 t hdk)
    .exact zb2 hb
  have hstore:2<=zY q i o->fS (fun i=>listed.getD i false) q 0 ops tr σ0=fS (fun j=>decide (j<i)) q 0 ops tr σ0:=by
   intro hk2
   refine zh2 _ _ q ops tr 0 σ0 fun k o' hk hdk=> ?_
   rw[Aa]at hdk⊢
   rcases Bi k i with hki|hki|hki
   .rw[decide_eq_true hki]
    rcases zc6 hd hki hk ho' with hc|hb
    .have:=(yS hc).1
     rw[zl8 hdk (xU _ _ _) hk2 (xU _ _ _)]at this
     cases this
    .exact ahead (by omega) hb
   .subst hki;rw[hDi];simp
   .rw[decide_eq_false (by omega)]
    rcases zc6 hd hki ho' hk with hc|hb
    .have:=(yS hc).1
     rw[zC2,zl8 hdk (xU _ _ _) hk2 (xU _ _ _)]at this
     cases this
    .exact zb2 hb
  have hone:zY q i o=1->n0.of (fS (fun i=>listed.getD i false) q 0 ops tr σ0)=n0.of (fS (fun j=>decide (j<i)) q 0 ops tr σ0):=by
   intro hk1
   have pre: ∀N,N<=ops.length-> ∃m,m<=N/\ ∀k o',k<N->ops[k]? =some o'->3<=zY q k o'->listed.getD k false=decide (k<m):=by
    intro N
    induction N with
    |zero=>exact fun _=>⟨0,A2 _,fun k o' h=>by omega⟩
    |succ N ihN=>
     intro hN
     obtain⟨m,hm,hall⟩:=ihN (by omega)
     have hNo:=A0 (show N<ops.length by omega)
     by_cases hw:3<=zY q N (ops[N]'(by omega))/\listed.getD N false=true
     .refine⟨N+1,A2 _,fun k o' hk hko h3=> ?_⟩
      rw[decide_eq_true hk]
      by_cases hkN:k=N
      .subst hkN;exact hw.2
      .rcases zc6 hd (show k<N by omega) hko hNo with hc|hb
       .have:=(yS hc).1
        rw[zl8 h3 (xU _ _ _) (by omega) (xU _ _ _)]at this
        cases this
       .exact zg7 (D:=fun j=>listed.getD j false) hcl hb hw.2
     .refine⟨m,by omega,fun k o' hk hko h3=> ?_⟩
      by_cases hkN:k=N
      .subst hkN
       rw[hNo]at hko;cases hko
       rw[decide_eq_false (by omega)]
       cases hl:listed.getD k false with
       |false=>rfl
       |true=>exact absurd ⟨h3,hl⟩ hw
      .exact hall k o' (by omega) hko h3
   obtain⟨m,hm,hall⟩:=pre ops.length (A2 _)
   have e1:fS (fun i=>listed.getD i false) q 0 ops tr σ0=fS (fun x=>decide (x<m)) q 0 ops tr σ0:=
    zh2 _ _ q ops tr 0 σ0 fun k o' hk h3=>by
     rw[Aa]at h3⊢
     exact hall k o' (A1.1 hk).1 hk h3
   rw[e1]
   have hil':i<ops.length:=(A1.1 ho').1
   rcases Nat.le_total m i with hmi|hmi
   .have:=(yU1 ht hn (i - m) m (by omega) (fun k o' h5 h6 hk h4=>by
     have h7:=hall k o' (A1.1 hk).1 hk (by omega)
     rw[decide_eq_false (by omega)]at h7
     rcases zc6 hd (show k<i by omega) hk ho' with hc|hb
     .have:=(yS hc).1
      rw[h4,hk1,zC3 (by decide)]at this
      cases this
     .rw[ahead (by omega) hb]at h7;cases h7)).2
    rw[show m+(i - m)=i by omega]at this
    exact this.symm
   .have:=(yU1 ht hn (m - i) i (by omega) (fun k o' h5 h6 hk h4=>by
     have h7:=hall k o' (A1.1 hk).1 hk (by omega)
     rw[decide_eq_true (by omega)]at h7
     have hki:k≠i:=fun qq=>by
      subst qq
      rw[hk]at ho';cases ho'
      omega
     rcases zc6 hd (show i<k by omega) ho' hk with hc|hb
     .have:=(yS hc).1
      rw[zC2,h4,hk1,zC3 (by decide)]at this
      cases this
     .rw[zb2 hb]at h7;cases h7)).2
    rw[show i+(m - i)=m by omega]at this
    exact this
  have hstep:=zQ5 (ops:=ops) (Q:=Lift c nt Q) (next:=wpAny P .any ops.toArray (Lift c nt Q) fuel (listed.setIfInBounds i true)) o hs (hfact.step henv hstore hone) (by
   rintro e' s' a' w' L' β' hs' ⟨rfl,rfl⟩
   refine ih _ a' w' L' β' (by simpa using hsz) ?_ hcl' ?_
   .have:=yn2 (l:=listed) (i:=i) (by
     rw[Ar hil]
     have:=hDi
     simp[Array.getD,hil]at this
     rw[this])
    omega
   .have e1:updO (fE (fun i=>listed.getD i false) 0 ops tr e0) o.dst v=fE (fun k=>(listed.setIfInBounds i true).getD k false) 0 ops tr e0:=by
     funext t
     by_cases hdt:o.dst=some t
     .rw[zi4 _ _ _ _ hdt]
      refine(zC0 _ t ops tr 0 i e0 o v σ' ho' htr hdt (by rw[Aa];exact hii) fun k' o' hk' ho2 hd2=> ?_).symm
      rw[Aa,hne k' (by omega)]
      rcases zc6 hd hk' ho' ho2 with hc|hb
      .exact absurd hd2 ((yS hc).2.1 t hdt).2
      .exact zb2 hb
     .rw[ze8 _ _ _ _ hdt]
      refine ze0 _ _ t ops tr 0 e0 e0 rfl fun k o' hk hdk=> ?_
      rw[Aa]
      refine(hne k fun q=> ?_).symm
      subst q
      rw[ho']at hk;cases hk
      exact hdt hdk
    have e2:(if 3<=zY q i o then σ' else fS (fun i=>listed.getD i false) q 0 ops tr σ0)=fS (fun k=>(listed.setIfInBounds i true).getD k false) q 0 ops tr σ0:=by
     split
     .rename_i hk2
      refine(zI8 _ q ops tr 0 i σ0 o v σ' ho' htr (by rw[Aa];exact hk2) (by rw[Aa];exact hii) fun k' o' hk' ho2 hd2=> ?_).symm
      rw[Aa]at hd2⊢
      rw[hne k' (by omega)]
      rcases zc6 hd hk' ho' ho2 with hc|hb
      .have:=(yS hc).1
       rw[zl8 hk2 (xU _ _ _) (by omega) (xU _ _ _)]at this
       cases this
      .exact zb2 hb
     .rename_i hk2
      refine zh2 _ _ q ops tr 0 σ0 fun k o' hk hdk=> ?_
      rw[Aa]at hdk⊢
      refine(hne k fun q=> ?_).symm
      subst q
      rw[ho']at hk;cases hk
      exact hk2 hdk
    rw[e1,e2]at hs'
    exact hs')
  unfold wpOp
  rw[ho]
  exact hstep
theorem VW.draw {id:Nat} {ops:List Oper} {q:List (Nat×Nat)} {Q:Exit->Env->St->Prop} {e:Env} {σ:St} {tr:List (V×St)} (hm:P.follows .mixedOrders=true) (hn:n0.n<=σ.length) (hd:zy4 ops q=true) (hed:zc3 ops=true)
  (ht:zt3 P c nt n0 ops q 0 ops e σ tr) (hQ:Q .normal (fE (fun _=>true) 0 ops tr e) (fS (fun _=>true) q 0 ops tr σ)):VW P c nt (.region id ops.toArray true) Q e σ:=by
 intro a w L β hs
 refine wp_region_any hm ?_
 have hg: ∀j,(Array.replicate ops.toArray.size false).getD j false=false:=fun j=>by
  simp[Array.getD]
 have e1:fE (fun i=>(Array.replicate ops.toArray.size false).getD i false) 0 ops tr e=e:=by
  funext t
  exact zY5 _ t ops tr 0 e fun k o _ _=>hg _
 have e2:fS (fun i=>(Array.replicate ops.toArray.size false).getD i false) q 0 ops tr σ=σ:=zw6 _ q ops tr 0 σ fun k o _ _=>hg _
 refine xN5 hn hd hed ht hQ _ _ a w.drew L β (by simp) (by simp) (fun j o _ hj=>by rw[hg]at hj;cases hj) ?_
 rw[e1,e2]
 obtain⟨hm',hle⟩:=hs.mem.drew
 exact⟨hm',hs.size,hs.defs,fun t=>(hs.env t).mono hle (Ext.refl _ _)⟩
end
end Go.Vx
