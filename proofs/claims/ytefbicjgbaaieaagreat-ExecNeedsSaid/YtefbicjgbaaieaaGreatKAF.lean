/-
  Walks with cuts: a statement's end held by the slots that are read later, what follows proved once.
  No condition: a library text; nothing of the program is named.
-/
import Derived.Test.YtefbicjgbaaieaaGreatKAE
import Derived.Orders
set_option maxHeartbeats 8000000
namespace Go.Vx
open Go
def zd5:Op->Nat
 | .move _| .assign _| .pick .. | .build .. | .buildSlice .. | .nilCheck _| .binOp .. | .unOp .. | .convert .. | .slice .. | .fieldAddr .. | .field .. | .indexAddr .. | .index .. | .extract .. | .makeFunc .. =>0
 | .call ⟨.builtin .len,_,_⟩| .call ⟨.builtin .min,_,_⟩| .call ⟨.builtin .max,_,_⟩=>0
 | .load .. =>1
 | .alloc .. | .box .. =>3
 |_=>4
def zU (q:List (Nat×Nat)) (i:Nat) (o:Oper):Nat:=match q.find? (·.1==i)with|some p=>min p.2 4|none=>zd5 o.op
structure Kp where
 x:Nat
 n:Nat
 ex:List Nat
 ob:Option (Nat×(Ob->R))
abbrev Kp.pre (n:Nat):Kp:=⟨0,n,[],none⟩
def Kp.has (k:Kp) (id:Nat):Bool:=decide (k.x<=id)&&decide (id<k.n)&& !k.ex.contains id
@[go_sem] theorem Kp.has_pre {n id:Nat}:(Kp.mk 0 n [] none).has id=decide (id<n):=by simp[Kp.has]
@[go_sem] theorem Kp.has_but {x n id:Nat}:(Kp.mk (x+1) n [] none).has id=(decide (x+1<=id)&&decide (id<n)):=by simp[Kp.has]
def Kp.of (k:Kp) (σ:St):St×Option R:=(((σ.take k.n).mapIdx fun i o=>if k.ex.contains i then .dead else o).drop k.x,k.ob.bind fun p=>((σ.take k.n)[p.1]?).map p.2)
theorem Kp.get {k:Kp} {id:Nat} {σ S:St} (h:k.has id=true) (ht:k.of σ=k.of S):σ[id]? =S[id]? :=by
 simp only[Kp.has,A6,decide_eq_true_eq,D8]at h
 obtain⟨⟨h1,h2⟩,h3⟩:=h
 have e: ∀τ:St,(k.of τ).1[id - k.x]? =τ[id]? :=fun τ=>by
  unfold Kp.of
  rw[Bj,show k.x+(id - k.x)=id by omega,Ef,Ai,if_pos h2]
  simp only[h3]
  cases τ[id]? <;>simp
 rw[<-e σ,<-e S,ht]
theorem Kp.of_append {k:Kp} {σ ext:St} (h:k.n<=σ.length):k.of (σ++ext)=k.of σ:=by
 unfold Kp.of
 rw[Cp h]
theorem Kp.of_set {k:Kp} {σ:St} {id:Nat} {o:Ob} (h:(id<k.x/\k.ob=none)∨k.n<=id):k.of (σ.set id o)=k.of σ:=by
 unfold Kp.of
 congr 1
 .refine Bt fun i=> ?_
  rw[Bj,Bj,Ef,Ef,Ai,Ai]
  congr 1
  by_cases q:k.x+i<k.n
  .rw[if_pos q,if_pos q,Bu om]
  .rw[if_neg q,if_neg q]
 .rcases h with ⟨_,h⟩|h
  .rw[h];rfl
  .congr 1
   funext p
   congr 1
   rw[Ai,Ai]
   split
   .rw[Bu om]
   .rfl
theorem Kp.of_ex {k:Kp} {σ:St} {id:Nat} {o o':Ob} (hx:k.ex.contains id=true) (ho:σ[id]? =some o) (hk: ∀p,k.ob=some p->p.1=id->p.2 o'=p.2 o):k.of (σ.set id o')=k.of σ:=by
 unfold Kp.of
 congr 1
 .congr 1
  refine Bt fun i=> ?_
  rw[Ef,Ef,Ai,Ai]
  by_cases q1:i<k.n
  .rw[if_pos q1,if_pos q1]
   by_cases q:id=i
   .subst q
    obtain⟨hl,_⟩:=A3.1 ho
    rw[Ba hl,ho]
    simp only[B8,hx,if_true]
   .rw[Bu q]
  .rw[if_neg q1,if_neg q1]
 .cases aa:k.ob with
  |none=>rfl
  |some p=>
   simp only[B3]
   rw[Ai,Ai]
   split
   .by_cases q:p.1=id
    .obtain⟨hl,_⟩:=A3.1 ho
     rw[q,Ba hl,ho]
     simp only[B8]
     rw[hk p aa q]
    .rw[Bu (fun h=>q h.symm)]
   .rfl
def zZ4 (a b:Nat):Bool:=(a==4&&b !=0)||(b==4&&a !=0)||(a==3&&(b==3||b==2))||(b==3&&a==2)
def zv4 (ops:List Oper) (o:Oper):List Tmp:=(o.op.operands.toList.filterMap fun| .tmp t=>some t|_=>none)++(match o.guard with|some (j,_)=>(gdst ops j).toList|none=> [])++(o.dst.map (100000+ ·)).toList
def hok (P:Program) (d:Option Tmp) (e:Env) (op:Op):Prop:=zd3 e d=false∨ ∀e σ,wX P e σ op=evOp P e σ op
theorem zo7 {P:Program} {d:Option Tmp} {e:Env} {op:Op} (h:hok P d e op) (σ:St):xP P d e σ op=evOp P e σ op:=by
 unfold xP
 rcases h with h|h
 .rw[h];rfl
 .rw[h];simp
theorem yA6 {d:Option Tmp} {e e':Env} (h: ∀t,d=some t->e (100000+t)=e' (100000+t)):zd3 e d=zd3 e' d:=by
 cases d with
 |none=>rfl
 |some t=>simp only[zd3,h t rfl]
def befs:List Oper->List (List Nat)->List (List Nat)
 | [],acc=>acc
 |o::os,acc=>befs os (acc++ [((o.after.toList.filter (Region.binds .any)).flatMap fun e=>e.on::acc.getD e.on []).eraseDups])
def zM7 (ops:List Oper) (q:List (Nat×Nat)) (i j:Nat) (a b:Oper):Bool:=
 zZ4 (zU q i a) (zU q j b)||
 (match a.dst with|some d=>(zv4 ops b).contains d||b.dst==some d|none=>false)||(match b.dst with|some d=>(zv4 ops a).contains d|none=>false)
def zz7 (ops:List Oper) (q:List (Nat×Nat)):Bool:=
 let b:=befs ops []
 (List.range ops.length).all fun j=>(List.range j).all fun i=>
  match ops[i]?,ops[j]? with
  |some x,some y=> !zM7 ops q i j x y||(b.getD j []).contains i
  |_,_=>true
def zc4 (ops:List Oper):Bool:=(List.range ops.length).all fun j=>match ops[j]? with|some o=>o.after.all fun e=> !Region.binds .any e||decide (e.on<j)|none=>true
section
variable {P:Program} {c:Ctx} {nt:Nat} {n0:Kp}
variable {σ:St}{e:Env}{e':Env}
theorem xb6 (ops:List Oper) (D:Nat->Prop) (hD: ∀(j:Nat) o,ops[j]? =some o->D j-> ∀e∈o.after.toList,Region.binds .any e=true->D e.on):
  ∀(rest pre:List Oper) (acc:List (List Nat)),ops=pre++rest->acc.length=pre.length->(∀j l,acc[j]? =some l->D j-> ∀i∈l,D i)->
   ∀j l,(befs rest acc)[j]? =some l->D j-> ∀i∈l,D i
 | [],_,acc,_,_,h=>h
 |o::rest,pre,acc,ad,hlen,h=>by
  rw[befs]
  refine xb6 ops D hD rest (pre++ [o]) _ (by rw[ad];simp) (by simp[hlen]) fun j l hj ae i hi=> ?_
  rcases getElem?_push hj with ⟨_,hj⟩|⟨hj,hl⟩
  .exact h j l hj ae i hi
  .have ag:j=pre.length:=om
   rw[hl]at hi
   have ab:=List.mem_eraseDups.1 hi
   rw[Dr]at ab
   obtain⟨e,he,ab⟩:=ab
   rw[Aw]at he
   have ho:ops[j]? =some o:=by rw[ad,ag];simp
   have af:=hD j o ho ae e he.1 he.2
   rcases Ae.1 ab with hq|hq
   .rw[hq];exact af
   .rw[A7]at hq
    cases aa:acc[e.on]? with
    |none=>rw[aa]at hq;simp at hq
    |some l'=>rw[aa]at hq;exact h e.on l' aa af i (by simpa using hq)
def imm (n0:Kp):V->Bool
 | .ptr id _=>n0.has id
 | .lsp id _ _ _ _=>n0.has id
 |_=>true
def KeepN (n0:Kp) (σ σ':St):Prop:=(∃ext,σ'=σ++ext)∨n0.of σ'=n0.of σ
theorem KeepN.refl {n0:Kp}:KeepN n0 σ σ:= .inr rfl
def Fact (P:Program) (c:Ctx) (nt:Nat) (n0:Kp) (ops:List Oper) (q:List (Nat×Nat)) (i:Nat) (o:Oper) (e:Env) (σ:St) (v:V) (σ':St):Prop:=
 (∀t,o.dst=some t->t<nt)/\(zU q i o<3->σ'=σ)/\(zU q i o=3->KeepN n0 σ σ')/\σ.length<=σ'.length/\
 ∃g:Bool,(match o.guard with|none=>g=true|some (j,want)=> ∃t,gdst ops j=some t/\((∃b,e t= .bool b/\g=(b==want))∨(e t= .tup []/\g=false)))/\
  (if g then(match o.op with
   | .call ⟨.value f,args,_⟩=>(if zU q i o=0 then∀s,VC P c (zD e f) (args.toList.map (zD e)) s (fun r s'=>r=v/\s'=s)else if zU q i o=1 then∀s,n0.of s=n0.of σ->VC P c (zD e f) (args.toList.map (zD e)) s (fun r s'=>r=v/\s'=s)else VC P c (zD e f) (args.toList.map (zD e)) σ (fun r s=>r=v/\s=σ'))
   |op=>(zU q i o<3->hok P o.dst e op)/\(zU q i o=0->zd5 op=0)/\(zU q i o=1->(∃t x,op= .load t x/\imm n0 (zD e x)=true)∨(∀t x,op≠ .load t x)/\ ∀s,n0.of s=n0.of σ->evOp P e s op=evOp P e σ op)/\
    ((xP P o.dst e σ op= .ok v/\σ'=σ)∨(∃p,xP P o.dst e σ op= .need p v/\p/\σ'=σ)∨(3<=zU q i o/\(xP P o.dst e σ op= .st v σ'∨ ∃p,xP P o.dst e σ op= .needst p v σ'/\p))))
   else v= .tup []/\σ'=σ)
def updO (e:Env) (d:Option Tmp) (v:V):Env:=match d with|some t=>upd e t v|none=>e
def zu4 (P:Program) (c:Ctx) (nt:Nat) (n0:Kp) (ops:List Oper) (q:List (Nat×Nat)):Nat->List Oper->Env->St->List (V×St)->Prop
 |_,[],_,_,[]=>True
 |i,o::os,e,σ,(v,σ')::tr=>Fact P c nt n0 ops q i o e σ v σ'/\zu4 P c nt n0 ops q (i+1) os (updO e o.dst v) σ' tr
 |_,_,_,_,_=>False
def fE (D:Nat->Bool):Nat->List Oper->List (V×St)->Env->Env
 |i,o::os,(v,_)::tr,e=>fE D (i+1) os tr (if D i then updO e o.dst v else e)
 |_,_,_,e=>e
def fS (D:Nat->Bool) (q:List (Nat×Nat)):Nat->List Oper->List (V×St)->St->St
 |i,o::os,(_,σ')::tr,s=>fS D q (i+1) os tr (if D i&&decide (3<=zU q i o)then σ' else s)
 |_,_,_,s=>s
theorem zi5 (e:Env) (d:Option Tmp) (v:V) (t:Tmp) (h:d=some t):updO e d v t=v:=by subst h;simp[updO,upd]
theorem ze8 (e:Env) (d:Option Tmp) (v:V) (t:Tmp) (h:d≠some t):updO e d v t=e t:=by
 cases d with
 |none=>rfl
 |some d=>simp only[updO,upd];rw[if_neg (fun q=>h (by rw[q]))]
theorem ze1 (D D':Nat->Bool) (t:Tmp): ∀(os:List Oper) (tr:List (V×St)) (i:Nat) (e e':Env),e t=e' t->(∀(k:Nat) o,os[k]? =some o->o.dst=some t->D (i+k)=D' (i+k))->fE D i os tr e t=fE D' i os tr e' t
 | [],_,_,_,_,h,_=>by simpa[fE]using h
 |o::os,[],_,_,_,h,_=>by simpa[fE]using h
 |o::os,(v,s)::tr,i,e,e',h,hD=>by
  rw[fE,fE]
  refine ze1 D D' t os tr (i+1) _ _ ?_ (fun k o' hk hd=>by have:=hD (k+1) o' (by simpa using hk) hd;rwa [show i+(k+1)=i+1+k by omega]at this)
  by_cases hd:o.dst=some t
  .have:=hD 0 o rfl hd
   rw[D1]at this
   rw[this]
   split
   .rw[zi5 _ _ _ _ hd,zi5 _ _ _ _ hd]
   .exact h
  .have e1:(if D i=true then updO e o.dst v else e) t=e t:=by split<;>simp[ze8 _ _ _ _ hd]
   have e2:(if D' i=true then updO e' o.dst v else e') t=e' t:=by split<;>simp[ze8 _ _ _ _ hd]
   rw[e1,e2,h]
theorem yb8 (D:Nat->Bool) (t:Tmp) (os:List Oper) (tr:List (V×St)) (i:Nat) (e:Env) (h: ∀(k:Nat) o,os[k]? =some o->o.dst=some t->D (i+k)=false):fE D i os tr e t=e t:=by
 have h1:=ze1 D (fun _=>false) t os tr i e e rfl (fun k o hk hd=>h k o hk hd)
 rw[h1]
 clear h h1
 induction os generalizing tr i with
 |nil=>simp[fE]
 |cons o os ih=>cases tr with
  |nil=>simp[fE]
  |cons x tr=>obtain⟨v,s⟩:=x;rw[fE];simpa using ih tr (i+1)
theorem zD6 (D:Nat->Bool) (t:Tmp): ∀(os:List Oper) (tr:List (V×St)) (i k:Nat) (e:Env) (o:Oper) (v:V) (s:St),os[k]? =some o->tr[k]? =some (v,s)->o.dst=some t->D (i+k)=true->(∀(k':Nat) o',k<k'->os[k']? =some o'->o'.dst=some t->D (i+k')=false)->fE D i os tr e t=v
 | [],_,_,_,_,_,_,_,h,_,_,_,_=>by simp at h
 |_::_,[],_,_,_,_,_,_,_,h,_,_,_=>by simp at h
 |o1::os,(v1,s1)::tr,i,0,e,o,v,s,h1,h2,hd,hD,hl=>by
  simp at h1 h2
  obtain⟨rfl,rfl⟩:=h2
  subst h1
  rw[fE,if_pos (by simpa using hD),yb8]
  .exact zi5 _ _ _ _ hd
  .intro k o' hk aa
   have:=hl (k+1) o' om (by simpa using hk) aa
   rwa [show i+1+k=i+(k+1) by omega]
 |o1::os,(v1,s1)::tr,i,k+1,e,o,v,s,h1,h2,hd,hD,hl=>by
  rw[fE]
  refine zD6 D t os tr (i+1) k _ o v s (by simpa using h1) (by simpa using h2) hd (by rwa [show i+1+k=i+(k+1) by omega]) fun k' o' ad ab aa=> ?_
  have:=hl (k'+1) o' om (by simpa using ab) aa
  rwa [show i+1+k'=i+(k'+1) by omega]
theorem zh3 (D D':Nat->Bool) (q:List (Nat×Nat)): ∀(os:List Oper) (tr:List (V×St)) (i:Nat) (s:St),(∀(k:Nat) o,os[k]? =some o->3<=zU q (i+k) o->D (i+k)=D' (i+k))->fS D q i os tr s=fS D' q i os tr s
 | [],_,_,_,_=>by simp[fS]
 |o::os,[],_,_,_=>by simp[fS]
 |o::os,(v,σ')::tr,i,s,h=>by
  rw[fS,fS]
  have e1:(if(D i&&decide (3<=zU q i o))=true then σ' else s)=(if(D' i&&decide (3<=zU q i o))=true then σ' else s):=by
   by_cases hk:3<=zU q i o
   .have:=h 0 o rfl (by rw[D1];exact hk)
    rw[D1]at this
    rw[this]
   .simp[hk]
  rw[e1]
  exact zh3 D D' q os tr (i+1) _ (fun k o' hk hd=>by have:=h (k+1) o' (by simpa using hk) (by rwa [show i+(k+1)=i+1+k by omega]);rwa [show i+(k+1)=i+1+k by omega]at this)
theorem zx8 (D:Nat->Bool) (q:List (Nat×Nat)) (os:List Oper) (tr:List (V×St)) (i:Nat) (s:St) (h: ∀(k:Nat) o,os[k]? =some o->3<=zU q (i+k) o->D (i+k)=false):fS D q i os tr s=s:=by
 have h1:=zh3 D (fun _=>false) q os tr i s h
 rw[h1]
 clear h h1
 induction os generalizing tr i with
 |nil=>simp[fS]
 |cons o os ih=>cases tr with
  |nil=>simp[fS]
  |cons x tr=>obtain⟨v,s'⟩:=x;rw[fS];simpa using ih tr (i+1)
theorem zL2 (D:Nat->Bool) (q:List (Nat×Nat)): ∀(os:List Oper) (tr:List (V×St)) (i k:Nat) (s:St) (o:Oper) (v:V) (σ':St),os[k]? =some o->tr[k]? =some (v,σ')->3<=zU q (i+k) o->D (i+k)=true->(∀(k':Nat) o',k<k'->os[k']? =some o'->3<=zU q (i+k') o'->D (i+k')=false)->fS D q i os tr s=σ'
 | [],_,_,_,_,_,_,_,h,_,_,_,_=>by simp at h
 |_::_,[],_,_,_,_,_,_,_,h,_,_,_=>by simp at h
 |o1::os,(v1,s1)::tr,i,0,s,o,v,σ',h1,h2,hd,hD,hl=>by
  simp at h1 h2
  obtain⟨rfl,rfl⟩:=h2
  subst h1
  rw[D1]at hd hD
  rw[fS,if_pos (by simp[hd,hD]),zx8]
  intro k o' hk aa
  have:=hl (k+1) o' om (by simpa using hk) (by rwa [show i+(k+1)=i+1+k by omega])
  rwa [show i+1+k=i+(k+1) by omega]
 |o1::os,(v1,s1)::tr,i,k+1,s,o,v,σ',h1,h2,hd,hD,hl=>by
  rw[fS]
  refine zL2 D q os tr (i+1) k _ o v σ' (by simpa using h1) (by simpa using h2) (by rwa [show i+1+k=i+(k+1) by omega]) (by rwa [show i+1+k=i+(k+1) by omega]) fun k' o' ad ab aa=> ?_
  have:=hl (k'+1) o' om (by simpa using ab) (by rwa [show i+(k'+1)=i+1+k' by omega])
  rwa [show i+1+k'=i+(k'+1) by omega]
theorem zC2 (ops:List Oper) (q:List (Nat×Nat)): ∀(os:List Oper) (tr:List (V×St)) (i:Nat) (e:Env) (σ:St),zu4 P c nt n0 ops q i os e σ tr->
  tr.length=os.length/\ ∀(k:Nat) o,os[k]? =some o-> ∃v σ',tr[k]? =some (v,σ')/\Fact P c nt n0 ops q (i+k) o (fE (fun j=>decide (j<i+k)) i os tr e) (fS (fun j=>decide (j<i+k)) q i os tr σ) v σ'
 | [],[],_,_,_,_=>⟨rfl,fun k o h=>by simp at h⟩
 | [],_::_,_,_,_,h=>h.elim
 |_::_,[],_,_,_,h=>h.elim
 |o::os,(v,σ')::tr,i,e,σ,⟨hf,ht⟩=>by
  obtain⟨hl,ab⟩:=zC2 ops q os tr (i+1) _ _ ht
  refine⟨by simp[hl],fun k o' hk=> ?_⟩
  cases k with
  |zero=>
   simp at hk
   subst hk
   refine⟨v,σ',rfl, ?_⟩
   rw[D1,fE,fS]
   have h1:(if(fun j=>decide (j<i)) i=true then updO e o.dst v else e)=e:=sm
   have h2:(if((fun j=>decide (j<i)) i&&decide (3<=zU q i o))=true then σ' else σ)=σ:=sm
   rw[h1,h2]
   have e1:fE (fun j=>decide (j<i)) (i+1) os tr e=e:=by
    funext t
    exact yb8 _ t os tr (i+1) e (fun k o' _ _=>by simp;omega)
   have e2:fS (fun j=>decide (j<i)) q (i+1) os tr σ=σ:=zx8 _ q os tr (i+1) σ (fun k o' _ _=>by simp;omega)
   rw[e1,e2]
   exact hf
  |succ k=>
   obtain⟨v2,s2,h1,h2⟩:=ab k o' (by simpa using hk)
   refine⟨v2,s2,by simpa using h1, ?_⟩
   rw[show i+(k+1)=i+1+k by omega]
   rw[fE,fS,if_pos (by simp;omega)]
   have hs:(if((fun j=>decide (j<i+1+k)) i&&decide (3<=zU q i o))=true then σ' else σ)=σ':=by
    by_cases aa:3<=zU q i o
    .rw[if_pos (by simp[aa];omega)]
    .rw[if_neg (by simp[aa])]
     exact(hf.2.1 om).symm
   rw[hs]
   exact h2
theorem zO3 (op:Op) (h: ∀x∈op.operands.toList,zD e x=zD e' x):evOp P e σ op=evOp P e' σ op:=by
 have hl: ∀l:List Operand,(∀x∈l,zD e x=zD e' x)->l.map (zD e)=l.map (zD e'):=fun l hl=>B6 hl
 have aa: ∀ps:List (Nat×Operand),(∀x∈ps.map (·.2),zD e x=zD e' x)->(ps.map fun p=>(p.1,zD e p.2))=(ps.map fun p=>(p.1,zD e' p.2)):=fun ps hp=>
  B6 fun p hm=>by rw[hp p.2 (Ac.2 ⟨p,hm,rfl⟩)]
 cases op with
 |build t ps=>simp only[evOp];rw[aa ps.toList (fun x hx=>h x (by simpa[Op.operands]using hx))]
 |buildSlice t n ps=>simp only[evOp];rw[aa ps.toList (fun x hx=>h x (by simpa[Op.operands]using hx))]
 |makeFunc fn first caps=>simp only[evOp];rw[hl caps.toList (fun x hx=>h x (by simp only[Op.operands,Array.toList_append,Av];exact .inr hx))]
 |slice t x lo hi mx=>cases lo<;>cases hi<;>cases mx<;>simp_all[evOp,Op.operands]
 |makeMap t r=>cases r<;>simp_all[evOp,Op.operands]
 |next x b=>cases b<;>simp_all[evOp,Op.operands]
 |call cl=>
  obtain⟨ab,args,ts⟩:=cl
  cases ab with
  |builtin b=>
   have h': ∀x∈args.toList,zD e x=zD e' x:=fun x hx=>h x (by simpa[Op.operands,Call.operands]using hx)
   obtain⟨args⟩:=args
   cases b<;>simp only[evOp]
   case min=>rw[hl args h']
   case max=>rw[hl args h']
   all_goals (split<;>simp_all)
  |_=>simp only[evOp]
 |_=>first|rfl|(simp_all[evOp,Op.operands];done)
theorem yJ3 (op:Op) (h: ∀x∈op.operands.toList,zD e x=zD e' x):wX P e σ op=wX P e' σ op:=by
 have hc:=zO3 (P:=P) (σ:=σ) op h
 have aa: ∀ps:List (Nat×Operand),(∀x∈ps.map (·.2),zD e x=zD e' x)->(ps.map fun p=>(p.1,zD e p.2))=(ps.map fun p=>(p.1,zD e' p.2)):=fun ps hp=>
  B6 fun p hm=>by rw[hp p.2 (Ac.2 ⟨p,hm,rfl⟩)]
 cases op with
 |buildSlice t n ps=>simp only[wX];rw[aa ps.toList (fun x hx=>h x (by simpa[Op.operands]using hx))]
 |makeSlice t l m=>simp_all[wX,Op.operands]
 |convert t t' x=>simp_all[wX,Op.operands]
 |slice t x lo hi mx=>
  cases lo with
  |none=>exact hc
  |some lo=>cases hi with
   |some _=>exact hc
   |none=>cases mx with
    |some _=>exact hc
    |none=>simp_all[wX,Op.operands]
 |next x b=>cases b<;>simp_all[wX,Op.operands]
 |call cl=>
  obtain⟨ab,args,ts⟩:=cl
  cases ab with
  |builtin b=>
   have h': ∀x∈args.toList,zD e x=zD e' x:=fun x hx=>h x (by simpa[Op.operands,Call.operands]using hx)
   obtain⟨args⟩:=args
   cases b
   case append=>simp only[wX];split<;>simp_all
   all_goals exact hc
  |_=>exact hc
 |_=>exact hc
theorem yJ2 {d:Option Tmp} (op:Op) (hd:zd3 e d=zd3 e' d) (h: ∀x∈op.operands.toList,zD e x=zD e' x):xP P d e σ op=xP P d e' σ op:=by
 unfold xP
 rw[hd,zO3 op h,yJ3 op h]
theorem xx9 {σ':St} (o:Oper) (hc: ∀f az ts,o.op≠ .call ⟨.value f,az,ts⟩) (h:zd5 o.op=0):evOp P e σ o.op=evOp P e σ' o.op:=by
 obtain⟨dst,op,ty,pos,aft,g⟩:=o
 simp only at h hc⊢
 cases op with
 |call cl=>
  obtain⟨aa,args,ts⟩:=cl
  cases aa with
  |builtin b=>obtain⟨args⟩:=args;cases b<;>first|(simp[zd5]at h;done)|(simp only[evOp];done)|(simp only[evOp];split<;>first|rfl|contradiction|(rename_i heq;simp at heq))
  |value f=>exact absurd rfl (hc f args ts)
  |_=>simp only[evOp]
 |slice t x lo hi mx=>cases lo<;>cases hi<;>cases mx<;>rfl
 |_=>first|rfl|(simp[zd5]at h;done)
section
variable {e:Env} {σ:St} {a:Act} {w:World} {L:Nat->Nat} {β:List Value}
theorem zT8 {ops:List Oper} {Q:Exit->Act->World->Prop} {next:Act->World->Prop} (o:Oper) {K:Env->St->Prop} (h:Sim c nt e σ a w L β) (hK:vgd o.guard ops e (vop P c nt o.dst o.op K e σ) (vput nt o.dst (.tup []) K e σ))
  (hn: ∀e' σ' a' w' L' β',Sim c nt e' σ' a' w' L' β'->K e' σ'->next a' w'):
  if Region.wanted o (yielded ops.toArray a.tmps)then o.wp P a w next Q∨(o.asks P a w/\LetsOut Q)else next (a.put o.dst undef) w:=by
 have no:vput nt o.dst (.tup []) K e σ->next (a.put o.dst undef) w:=fun hv=>by
  obtain⟨e',hs,hk⟩:=zC3 h h.mem (Le.refl _ _) (Ext.refl _ _) (show RdS w L σ β (.tup []) undef from⟨[],rfl,tV⟩) hv
  exact hn _ _ _ _ _ _ hs hk
 unfold vgd at hK
 split at hK
 .rename_i hg
  rw[if_pos (by simp[Region.wanted,hg])]
  exact .inl (yE5 o h hK hn)
 .rename_i j want hg
  split at hK
  .rename_i t ht
   have hv:=h.env t
   unfold vgrd at hK
   split at hK
   .rename_i b hb
    rw[hb]at hv
    have hv:=zd0 hv
    have hy:yielded ops.toArray a.tmps j=some b:=by
     unfold yielded
     unfold gdst at ht
     have ad:(ops.toArray[j]?).bind (·.dst)=some t:=by simpa using ht
     rw[ad]
     simp only[B3]
     have ab:t<a.tmps.size:=by
      rcases Cf t a.tmps.size with q|q
      .exact q
      .simp[Array.getD,Nat.not_lt.2 q,undef]at hv
     rw[B9 ab]
     simp[Array.getD,ab]at hv
     rw[hv]
    by_cases aa:b=want
    .rw[if_pos (by simp[Region.wanted,hg,hy,aa])]
     exact .inl (yE5 o h (hK.1 aa) hn)
    .rw[if_neg (by simp[Region.wanted,hg,hy,aa])]
     exact no (hK.2 aa)
   .rename_i hb
    rw[hb]at hv
    rw[if_neg (by simp[Region.wanted,hg,ya9 ht hv])]
    exact no hK
   .exact hK.elim
  .exact hK.elim
theorem zr7 {d:Option Tmp} {v:V} {K:Env->St->Prop} (hd: ∀t,d=some t->t<nt) (h:K (updO e d v) σ):vput nt d v K e σ:=by
 cases d with
 |none=>exact h
 |some t=>exact⟨hd t rfl,h⟩
theorem yU4 {t:TypeId} {S:St} {x:V} (h:imm n0 x=true) (ht:n0.of σ=n0.of S):zh0 P t σ x=zh0 P t S x:=by
 cases x with
 |ptr id off=>
  have:σ[id]? =S[id]? :=Kp.get h ht
  simp only[zh0,this]
 |lsp id s n k j=>
  have:σ[id]? =S[id]? :=Kp.get h ht
  simp only[zh0,this]
 |_=>rfl
theorem Fact.step {ops:List Oper} {q:List (Nat×Nat)} {i:Nat} {o:Oper} {E:Env} {S:St} {v:V} {σ':St} (hf:Fact P c nt n0 ops q i o E S v σ') (he: ∀t∈zv4 ops o,e t=E t) (hs:2<=zU q i o->σ=S) (h1:zU q i o=1->n0.of σ=n0.of S):
  vgd o.guard ops e (vop P c nt o.dst o.op (fun e' s'=>e'=updO e o.dst v/\s'=if 3<=zU q i o then σ' else σ) e σ) (vput nt o.dst (.tup []) (fun e' s'=>e'=updO e o.dst v/\s'=if 3<=zU q i o then σ' else σ) e σ):=by
 obtain⟨hd,ar,_,_,g,hg,hb⟩:=hf
 have ab: ∀x∈o.op.operands.toList,zD e x=zD E x:=fun x hx=>by
  cases x with
  |tmp t=>exact he t (D3 _ (D3 _ (List.mem_filterMap.2 ⟨.tmp t,hx,rfl⟩)))
  |_=>rfl
 have keep:σ'=S->(if 3<=zU q i o then σ' else σ)=σ:=fun h=>by
  split
  .rename_i h2;rw[h];exact(hs om).symm
  .rfl
 have yes:g=true->vop P c nt o.dst o.op (fun e' s'=>e'=updO e o.dst v/\s'=if 3<=zU q i o then σ' else σ) e σ:=by
  intro au
  rw[if_pos au]at hb
  unfold vop
  split
  .rename_i f args ts ad
   rw[ad]at hb ab
   simp only at hb
   have av:=h1
   have h1:zD e f=zD E f:=ab f (by simp[Op.operands,Call.operands])
   have h2:args.toList.map (zD e)=args.toList.map (zD E):=B6 fun x hx=>ab x (by simp[Op.operands,Call.operands];exact .inr (by simpa using hx))
   rw[h1,h2]
   split at hb
   .rename_i aw
    refine(hb σ).mono ?_
    rintro x s' ⟨rfl,rfl⟩
    exact zr7 hd ⟨rfl,by rw[if_neg om]⟩
   .rename_i aw
    split at hb
    .rename_i aa
     refine(hb σ (av aa)).mono ?_
     rintro x s' ⟨rfl,rfl⟩
     exact zr7 hd ⟨rfl,by rw[if_neg om]⟩
    rename_i aa
    rw[hs om]
    refine hb.mono ?_
    rintro x s' ⟨rfl,rfl⟩
    refine zr7 hd ⟨rfl, ?_⟩
    split
    .rfl
    .rename_i h2;exact ar om
  .rename_i an
   have af:(zU q i o<3->hok P o.dst E o.op)/\(zU q i o=0->zd5 o.op=0)/\(zU q i o=1->(∃t x,o.op= .load t x/\imm n0 (zD E x)=true)∨(∀t x,o.op≠ .load t x)/\ ∀s,n0.of s=n0.of S->evOp P E s o.op=evOp P E S o.op)/\((xP P o.dst E S o.op= .ok v/\σ'=S)∨(∃p,xP P o.dst E S o.op= .need p v/\p/\σ'=S)∨(3<=zU q i o/\(xP P o.dst E S o.op= .st v σ'∨ ∃p,xP P o.dst E S o.op= .needst p v σ'/\p))):=by
    split at hb
    .rename_i f args ts ad;exact absurd ad (an f args ts)
    .exact hb
   obtain⟨hh,hz,ho,af⟩:=af
   have ao:zd3 e o.dst=zd3 E o.dst:=yA6 fun t ht=>he (100000+t) (by
    unfold zv4
    rw[ht]
    exact Ea _ sm)
   have ag:xP P o.dst e σ o.op=xP P o.dst E S o.op:=by
    by_cases h3:zU q i o<3
    .have ah:=hh h3
     have ax:hok P o.dst e o.op:=by
      unfold hok at ah⊢
      rw[ao];exact ah
     rw[zo7 ax,zo7 ah,zO3 o.op ab]
     by_cases h0:zU q i o=0
     .exact xx9 o an (hz h0)
     .by_cases aa:zU q i o=1
      .rcases ho aa with ⟨t,x,ad,ai⟩|⟨_,ai⟩
       .rw[ad]
        exact yU4 ai (h1 aa)
       .exact ai σ (h1 aa)
      .rw[hs om]
    .rw[yJ2 o.op ao ab,hs om]
   rw[ag]
   rcases af with ⟨hr,hq⟩|⟨p,hr,hp,hq⟩|⟨h2,hr|⟨p,hr,hp⟩⟩
   .rw[hr];exact zr7 (K:=(fun e' s'=>e'=updO e o.dst v/\s'=if 3<=zU q i o then σ' else σ)) hd ⟨rfl,(keep hq).symm⟩
   .rw[hr];exact⟨hp,zr7 (K:=(fun e' s'=>e'=updO e o.dst v/\s'=if 3<=zU q i o then σ' else σ)) hd ⟨rfl,(keep hq).symm⟩⟩
   .rw[hr]
    show vput nt o.dst v (fun e' s'=>e'=updO e o.dst v/\s'=if 3<=zU q i o then σ' else σ) e σ'
    exact zr7 (K:=(fun e' s'=>e'=updO e o.dst v/\s'=if 3<=zU q i o then σ' else σ)) hd ⟨rfl,by rw[if_pos h2]⟩
   .rw[hr]
    show p/\vput nt o.dst v (fun e' s'=>e'=updO e o.dst v/\s'=if 3<=zU q i o then σ' else σ) e σ'
    exact⟨hp,zr7 (K:=(fun e' s'=>e'=updO e o.dst v/\s'=if 3<=zU q i o then σ' else σ)) hd ⟨rfl,by rw[if_pos h2]⟩⟩
 have no:g=false->vput nt o.dst (.tup []) (fun e' s'=>e'=updO e o.dst v/\s'=if 3<=zU q i o then σ' else σ) e σ:=by
  intro ay
  rw[if_neg (by simp[ay])]at hb
  obtain⟨rfl,hq⟩:=hb
  exact zr7 hd ⟨rfl,(keep hq).symm⟩
 unfold vgd
 split
 .rename_i az;rw[az]at hg;exact yes hg
 .rename_i j want aq
  rw[aq]at hg
  obtain⟨t,ht,aj⟩:=hg
  rw[ht]
  simp only
  have:e t=E t:=he t (D3 _ (Ea _ (by rw[aq];simp[ht])))
  rcases aj with ⟨b,ak,ae⟩|⟨ak,ae⟩
  .rw[this,ak]
   exact⟨fun al=>yes (by simp[ae,al]),fun al=>no (by simp[ae,al])⟩
  .rw[this,ak]
   exact no ae
end
variable {ops:List Oper}{q:List (Nat×Nat)}{i:Nat}{j:Nat}{tr:List (V×St)}
theorem yU {a b:Oper} (h:zM7 ops q i j a b=false):
  zZ4 (zU q i a) (zU q j b)=false/\(∀d,a.dst=some d->d∉zv4 ops b/\b.dst≠some d)/\(∀d,b.dst=some d->d∉zv4 ops a):=by
 unfold zM7 at h
 simp only[Bool.or_eq_false_iff]at h
 obtain⟨⟨h1,h3⟩,h4⟩:=h
 refine⟨h1,fun d hd=> ?_,fun d hd=> ?_⟩
 .rw[hd]at h3;simp at h3
  exact⟨h3.1,h3.2⟩
 .rw[hd]at h4;simpa using h4
theorem xW (q:List (Nat×Nat)) (i:Nat) (o:Oper):zU q i o<=4:=by
 unfold zU
 split
 .exact Nat.min_le_right _ _
 .unfold zd5
  split<;>decide
theorem zm4 {a b:Nat} (ha:3<=a) (aa:a<=4) (hb:2<=b) (ab:b<=4):zZ4 a b=true:=by
 have h1:a=3∨a=4:=om
 have h2:b=2∨b=3∨b=4:=om
 rcases h1 with rfl|rfl<;>rcases h2 with rfl|rfl|rfl<;>rfl
theorem zD9 (a b:Nat):zZ4 a b=zZ4 b a:=by
 unfold zZ4
 cases h1:a==4<;>cases h2:b==4<;>cases h3:a==3<;>cases h4:b==3<;>cases h5:a==2<;>cases h6:b==2<;>cases h7:a==0<;>cases h8:b==0<;>simp_all
theorem zE0 {b:Nat} (hb:1<=b):zZ4 4 b=true:=by
 unfold zZ4
 simp;omega
theorem xb1 {e0:Env} {σ0:St} (ht:zu4 P c nt n0 ops q 0 ops e0 σ0 tr) (hn:n0.n<=σ0.length):
  ∀(d j:Nat),j+d<=ops.length->(∀(m:Nat) o,j<=m->m<j+d->ops[m]? =some o->zU q m o≠4)->
   n0.n<=(fS (fun x=>decide (x<j)) q 0 ops tr σ0).length/\n0.of (fS (fun x=>decide (x<j+d)) q 0 ops tr σ0)=n0.of (fS (fun x=>decide (x<j)) q 0 ops tr σ0):=by
 obtain⟨_,ab⟩:=zC2 ops q ops tr 0 e0 σ0 ht
 have next: ∀k,k<ops.length-> ∃o v σ',ops[k]? =some o/\Fact P c nt n0 ops q k o (fE (fun j=>decide (j<k)) 0 ops tr e0) (fS (fun j=>decide (j<k)) q 0 ops tr σ0) v σ'/\fS (fun j=>decide (j<k+1)) q 0 ops tr σ0=σ':=by
  intro k hk
  obtain⟨v,σ',ad,hf⟩:=ab k ops[k] (A0 hk)
  rw[Ad]at hf
  refine⟨ops[k],v,σ',A0 hk,hf, ?_⟩
  by_cases h3:3<=zU q k ops[k]
  .refine zL2 _ q ops tr 0 k σ0 ops[k] v σ' (A0 hk) ad (by rw[Ad];exact h3) sm fun k' o' af _ _=>by simp;omega
  .have:=hf.2.1 om
   rw[this]
   refine zh3 _ _ q ops tr 0 σ0 fun m o' hm aa=> ?_
   rw[Ad]at aa⊢
   by_cases ae:m=k
   .subst ae
    rw[A0 hk]at hm
    cases hm
    exact absurd aa h3
   .simp;omega
 have len: ∀j,j<=ops.length->n0.n<=(fS (fun x=>decide (x<j)) q 0 ops tr σ0).length:=by
  intro j
  induction j with
  |zero=>intro _;rw[zx8 _ q ops tr 0 σ0 (fun k o _ _=>sm)];exact hn
  |succ j ih=>
   intro hj
   obtain⟨o,v,σ',_,hf,he⟩:=next j om
   rw[he]
   exact Ax (ih om) hf.2.2.2.1
 intro d
 induction d with
 |zero=>intro j hj _;exact⟨len j om,rfl⟩
 |succ d ih=>
  intro j hj h4
  obtain⟨h1,h2⟩:=ih j om (fun m o h5 h6=>h4 m o h5 om)
  refine⟨h1, ?_⟩
  obtain⟨o,v,σ',ho,hf,he⟩:=next (j+d) om
  rw[show j+(d+1)=j+d+1 by omega,he,<-h2]
  have ag:=h4 (j+d) o om om ho
  have hle:=xW q (j+d) o
  by_cases h3:zU q (j+d) o=3
  .rcases hf.2.2.1 h3 with ⟨ext,hx⟩|hx
   .rw[hx,Kp.of_append (len (j+d) om)]
   .rw[hx]
  .rw[hf.2.1 om]
theorem zc8 (h:zz7 ops q=true) {x y:Oper} (aa:i<j) (hx:ops[i]? =some x) (hy:ops[j]? =some y):
  zM7 ops q i j x y=false∨i∈(befs ops []).getD j []:=by
 unfold zz7 at h
 simp only[Af,C3]at h
 have:=h j (A3.1 hy).1 i aa
 rw[hx,hy]at this
 simp only[Bv,D8,E1]at this
 exact this
theorem zg8 {D:Nat->Bool} (hD: ∀(j:Nat) o,ops[j]? =some o->D j=true-> ∀e∈o.after.toList,Region.binds .any e=true->D e.on=true) (hi:i∈(befs ops []).getD j []) (hj:D j=true):D i=true:=by
 rw[A7]at hi
 cases hb:(befs ops [])[j]? with
 |none=>rw[hb]at hi;simp at hi
 |some l=>
  rw[hb]at hi
  exact xb6 ops (fun k=>D k=true) hD ops [] [] rfl rfl (fun j l h=>by simp at h) j l hb hj i (by simpa using hi)
theorem yq3 {l:Array Bool} (h:l[i]? =some false):(l.setIfInBounds i true).toList.count false+1=l.toList.count false:=by
 obtain⟨l⟩:=l
 simp only[List.getElem?_toArray,List.setIfInBounds_toArray]at h⊢
 induction l generalizing i with
 |nil=>simp at h
 |cons b l ih=>
  cases i with
  |zero=>simp at h;subst h;simp
  |succ i=>
   simp at h
   have:=ih h
   simp only[Cg,List.count_cons]
   omega
theorem xY7 {Q:Exit->Env->St->Prop} {e0:Env} {σ0:St} (hn:n0.n<=σ0.length) (hd:zz7 ops q=true) (av:zc4 ops=true) (ht:zu4 P c nt n0 ops q 0 ops e0 σ0 tr)
  (hQ:Q .normal (fE (fun _=>true) 0 ops tr e0) (fS (fun _=>true) q 0 ops tr σ0)):
  ∀(fuel:Nat) (listed:Array Bool) (a:Act) (w:World) (L:Nat->Nat) (β:List Value),listed.size=ops.length->listed.toList.count false=fuel->
   (∀(j:Nat) o,ops[j]? =some o->listed.getD j false=true-> ∀e∈o.after.toList,Region.binds .any e=true->listed.getD e.on false=true)->
   Sim c nt (fE (fun i=>listed.getD i false) 0 ops tr e0) (fS (fun i=>listed.getD i false) q 0 ops tr σ0) a w L β->
   wpAny P .any ops.toArray (Lift c nt Q) fuel listed a w:=by
 obtain⟨aw,aK⟩:=zC2 ops q ops tr 0 e0 σ0 ht
 have fin: ∀(listed:Array Bool) (a:Act) (w:World) (L:Nat->Nat) (β:List Value),Sim c nt (fE (fun i=>listed.getD i false) 0 ops tr e0) (fS (fun i=>listed.getD i false) q 0 ops tr σ0) a w L β->
   (∀i,i<ops.length->listed.getD i false=true)->Lift c nt Q .normal a w:=by
  intro listed a w L β hs ab
  have e1:fE (fun i=>listed.getD i false) 0 ops tr e0=fE (fun _=>true) 0 ops tr e0:=by
   funext t
   exact ze1 _ _ t ops tr 0 e0 e0 rfl fun k o hk _=>by rw[Ad];exact ab k (A3.1 hk).1
  have e2:fS (fun i=>listed.getD i false) q 0 ops tr σ0=fS (fun _=>true) q 0 ops tr σ0:=
   zh3 _ _ q ops tr 0 σ0 fun k o hk _=>by rw[Ad];exact ab k (A3.1 hk).1
  rw[e1,e2]at hs
  exact⟨_,_,L,β,hs,hQ⟩
 have ax: ∀(listed:Array Bool),listed.size=ops.length->Region.ready .any ops.toArray listed= []-> ∀i,i<ops.length->listed.getD i false=true:=by
  intro listed ai hr i
  induction i using Nat.strongRecOn with
  |ind i ih=>
   intro hi
   cases an:listed.getD i false with
   |true=>rfl
   |false=>
    exfalso
    have hm:i∈Region.ready .any ops.toArray listed:=by
     refine mem_ready.2 ⟨?_,ops[i],by simp[hi],fun e he hb=> ?_⟩
     .have af:i<listed.size:=om
      simpa[Array.getD,af]using an
     .unfold zc4 at av
      simp only[Af,C3]at av
      have:=av i hi
      rw[A0 hi]at this
      simp only[Df]at this
      have:=this e he
      simp only[hb,Bool.not_true,Cb,decide_eq_true_eq]at this
      exact ih e.on this om
    rw[hr]at hm
    cases hm
 intro fuel
 induction fuel with
 |zero=>
  intro listed a w L β ai aB ao hs
  have ab: ∀i,i<ops.length->listed.getD i false=true:=by
   intro i hi
   have af:i<listed.size:=om
   cases an:listed[i]with
   |true=>simp[Array.getD,af,an]
   |false=>
    exfalso
    have:false∈listed.toList:=by
     rw[<-an];simp
    have:=List.count_pos_iff.2 this
    omega
  refine⟨?_,fin listed a w L β hs ab⟩
  cases hr:Region.ready .any ops.toArray listed with
  |nil=>rfl
  |cons i l=>
   exfalso
   have hm:i∈Region.ready .any ops.toArray listed:=by rw[hr];simp
   obtain⟨h1,o,ho,_⟩:=mem_ready.1 hm
   have hi:i<ops.length:=(A3.1 (by simpa using ho)).1
   have:=ab i hi
   have af:i<listed.size:=om
   simp[Array.getD,af]at this h1
   rw[this]at h1
   cases h1
 |succ fuel ih=>
  intro listed a w L β ai aB ao hs
  refine⟨fun hr=>fin listed a w L β hs (ax listed ai hr),fun i hi=> ?_⟩
  obtain⟨h1,o,ho,ay⟩:=mem_ready.1 hi
  have aa:ops[i]? =some o:=by simpa using ho
  have af:i<listed.size:=by rw[ai];exact(A3.1 aa).1
  have aq:listed.getD i false=false:=by
   simp[Array.getD,af]at h1⊢;exact h1
  have ah: ∀k,k≠i->(listed.setIfInBounds i true).getD k false=listed.getD k false:=fun k hk=>getD_set_ne false (fun q=>hk q.symm)
  have az:(listed.setIfInBounds i true).getD i false=true:=by simp[Array.getD,af]
  have au: ∀(j:Nat) o,ops[j]? =some o->(listed.setIfInBounds i true).getD j false=true-> ∀e∈o.after.toList,Region.binds .any e=true->(listed.setIfInBounds i true).getD e.on false=true:=by
   intro j o' hj aC e he hb
   by_cases aD:j=i
   .subst aD
    rw[aa]at hj
    cases hj
    exact getD_set_true (ay e (by simpa using he) hb)
   .rw[ah j aD]at aC
    exact getD_set_true (ao j o' hj aC e he hb)
  have ahead: ∀{k:Nat},k≠i->k∈(befs ops []).getD i []->listed.getD k false=true:=fun{k} hk hb=>by
   have:=zg8 (D:=fun j=>(listed.setIfInBounds i true).getD j false) au hb az
   rwa [ah k hk]at this
  have zc2: ∀{k:Nat},i∈(befs ops []).getD k []->listed.getD k false=false:=fun{k} hb=>by
   cases hk:listed.getD k false with
   |false=>rfl
   |true=>
    have:=zg8 (D:=fun j=>listed.getD j false) ao hb hk
    rw[aq]at this;cases this
  obtain⟨v,σ',aE,aj⟩:=aK i o aa
  rw[Ad]at aj
  have aF: ∀t∈zv4 ops o,fE (fun i=>listed.getD i false) 0 ops tr e0 t=fE (fun j=>decide (j<i)) 0 ops tr e0 t:=by
   intro t aw
   refine ze1 _ _ t ops tr 0 e0 e0 rfl fun k o' hk ae=> ?_
   rw[Ad]
   rcases Br k i with ad|ad|ad
   .rw[decide_eq_true ad]
    rcases zc8 hd ad hk aa with hc|hb
    .exact absurd aw ((yU hc).2.1 t ae).1
    .exact ahead om hb
   .subst ad;rw[aq];simp
   .rw[decide_eq_false om]
    rcases zc8 hd ad aa hk with hc|hb
    .exact absurd aw ((yU hc).2.2 t ae)
    .exact zc2 hb
  have ar:2<=zU q i o->fS (fun i=>listed.getD i false) q 0 ops tr σ0=fS (fun j=>decide (j<i)) q 0 ops tr σ0:=by
   intro ag
   refine zh3 _ _ q ops tr 0 σ0 fun k o' hk ae=> ?_
   rw[Ad]at ae⊢
   rcases Br k i with ad|ad|ad
   .rw[decide_eq_true ad]
    rcases zc8 hd ad hk aa with hc|hb
    .have:=(yU hc).1
     rw[zm4 ae (xW _ _ _) ag (xW _ _ _)]at this
     cases this
    .exact ahead om hb
   .subst ad;rw[aq];simp
   .rw[decide_eq_false om]
    rcases zc8 hd ad aa hk with hc|hb
    .have:=(yU hc).1
     rw[zD9,zm4 ae (xW _ _ _) ag (xW _ _ _)]at this
     cases this
    .exact zc2 hb
  have aG:zU q i o=1->n0.of (fS (fun i=>listed.getD i false) q 0 ops tr σ0)=n0.of (fS (fun j=>decide (j<i)) q 0 ops tr σ0):=by
   intro aH
   have pre: ∀N,N<=ops.length-> ∃m,m<=N/\ ∀k o',k<N->ops[k]? =some o'->3<=zU q k o'->listed.getD k false=decide (k<m):=by
    intro N
    induction N with
    |zero=>exact fun _=>⟨0,A5 _,fun k o' h=>om⟩
    |succ N aL=>
     intro hN
     obtain⟨m,hm,ab⟩:=aL om
     have aI:=A0 (show N<ops.length by omega)
     by_cases hw:3<=zU q N (ops[N]'om)/\listed.getD N false=true
     .refine⟨N+1,A5 _,fun k o' hk ak h3=> ?_⟩
      rw[decide_eq_true hk]
      by_cases a1:k=N
      .subst a1;exact hw.2
      .rcases zc8 hd (show k<N by omega) ak aI with hc|hb
       .have:=(yU hc).1
        rw[zm4 h3 (xW _ _ _) om (xW _ _ _)]at this
        cases this
       .exact zg8 (D:=fun j=>listed.getD j false) ao hb hw.2
     .refine⟨m,om,fun k o' hk ak h3=> ?_⟩
      by_cases a1:k=N
      .subst a1
       rw[aI]at ak;cases ak
       rw[decide_eq_false om]
       cases hl:listed.getD k false with
       |false=>rfl
       |true=>exact absurd ⟨h3,hl⟩ hw
      .exact ab k o' om ak h3
   obtain⟨m,hm,ab⟩:=pre ops.length (A5 _)
   have e1:fS (fun i=>listed.getD i false) q 0 ops tr σ0=fS (fun x=>decide (x<m)) q 0 ops tr σ0:=
    zh3 _ _ q ops tr 0 σ0 fun k o' hk h3=>by
     rw[Ad]at h3⊢
     exact ab k o' (A3.1 hk).1 hk h3
   rw[e1]
   have aQ:i<ops.length:=(A3.1 aa).1
   rcases Nat.le_total m i with aP|aP
   .have:=(xb1 ht hn (i - m) m om (fun k o' h5 h6 hk h4=>by
     have h7:=ab k o' (A3.1 hk).1 hk om
     rw[decide_eq_false om]at h7
     rcases zc8 hd (show k<i by omega) hk aa with hc|hb
     .have:=(yU hc).1
      rw[h4,aH,zE0 dC]at this
      cases this
     .rw[ahead om hb]at h7;cases h7)).2
    rw[show m+(i - m)=i by omega]at this
    exact this.symm
   .have:=(xb1 ht hn (m - i) i om (fun k o' h5 h6 hk h4=>by
     have h7:=ab k o' (A3.1 hk).1 hk om
     rw[decide_eq_true om]at h7
     have ad:k≠i:=fun qq=>by
      subst qq
      rw[hk]at aa;cases aa
      omega
     rcases zc8 hd (show i<k by omega) aa hk with hc|hb
     .have:=(yU hc).1
      rw[zD9,h4,aH,zE0 dC]at this
      cases this
     .rw[zc2 hb]at h7;cases h7)).2
    rw[show i+(m - i)=m by omega]at this
    exact this
  have a6:=zT8 (ops:=ops) (Q:=Lift c nt Q) (next:=wpAny P .any ops.toArray (Lift c nt Q) fuel (listed.setIfInBounds i true)) o hs (aj.step aF ar aG) (by
   rintro e' s' a' w' L' β' aJ ⟨rfl,rfl⟩
   refine ih _ a' w' L' β' (by simpa using ai) ?_ au ?_
   .have:=yq3 (l:=listed) (i:=i) (by
     rw[B9 af]
     have:=aq
     simp[Array.getD,af]at this
     rw[this])
    omega
   .have e1:updO (fE (fun i=>listed.getD i false) 0 ops tr e0) o.dst v=fE (fun k=>(listed.setIfInBounds i true).getD k false) 0 ops tr e0:=by
     funext t
     by_cases al:o.dst=some t
     .rw[zi5 _ _ _ _ al]
      refine(zD6 _ t ops tr 0 i e0 o v σ' aa aE al (by rw[Ad];exact az) fun k' o' a7 a8 aA=> ?_).symm
      rw[Ad,ah k' om]
      rcases zc8 hd a7 aa a8 with hc|hb
      .exact absurd aA ((yU hc).2.1 t al).2
      .exact zc2 hb
     .rw[ze8 _ _ _ _ al]
      refine ze1 _ _ t ops tr 0 e0 e0 rfl fun k o' hk ae=> ?_
      rw[Ad]
      refine(ah k fun q=> ?_).symm
      subst q
      rw[aa]at hk;cases hk
      exact al ae
    have e2:(if 3<=zU q i o then σ' else fS (fun i=>listed.getD i false) q 0 ops tr σ0)=fS (fun k=>(listed.setIfInBounds i true).getD k false) q 0 ops tr σ0:=by
     split
     .rename_i ag
      refine(zL2 _ q ops tr 0 i σ0 o v σ' aa aE (by rw[Ad];exact ag) (by rw[Ad];exact az) fun k' o' a7 a8 aA=> ?_).symm
      rw[Ad]at aA⊢
      rw[ah k' om]
      rcases zc8 hd a7 aa a8 with hc|hb
      .have:=(yU hc).1
       rw[zm4 ag (xW _ _ _) om (xW _ _ _)]at this
       cases this
      .exact zc2 hb
     .rename_i ag
      refine zh3 _ _ q ops tr 0 σ0 fun k o' hk ae=> ?_
      rw[Ad]at ae⊢
      refine(ah k fun q=> ?_).symm
      subst q
      rw[aa]at hk;cases hk
      exact ag ae
    rw[e1,e2]at aJ
    exact aJ)
  unfold wpOp
  rw[ho]
  exact a6
theorem VW.draw {id:Nat} {Q:Exit->Env->St->Prop} {e:Env} {σ:St} (hm:P.follows .mixedOrders=true) (hn:n0.n<=σ.length) (hd:zz7 ops q=true) (aa:zc4 ops=true)
  (ht:zu4 P c nt n0 ops q 0 ops e σ tr) (hQ:Q .normal (fE (fun _=>true) 0 ops tr e) (fS (fun _=>true) q 0 ops tr σ)):VW P c nt (.region id ops.toArray true) Q e σ:=by
 intro a w L β hs
 refine wp_region_any hm ?_
 have hg: ∀j,(Array.replicate ops.toArray.size false).getD j false=false:=fun j=>by
  simp[Array.getD]
 have e1:fE (fun i=>(Array.replicate ops.toArray.size false).getD i false) 0 ops tr e=e:=by
  funext t
  exact yb8 _ t ops tr 0 e fun k o _ _=>hg _
 have e2:fS (fun i=>(Array.replicate ops.toArray.size false).getD i false) q 0 ops tr σ=σ:=zx8 _ q ops tr 0 σ fun k o _ _=>hg _
 refine xY7 hn hd aa ht hQ _ _ a w.drew L β sm sm (fun j o _ hj=>by rw[hg]at hj;cases hj) ?_
 rw[e1,e2]
 obtain⟨ab,hle⟩:=hs.mem.drew
 exact⟨ab,hs.size,hs.defs,fun t=>(hs.env t).mono hle (Ext.refl _ _)⟩
end
def isSt:R->Bool
 | .st .. | .needst .. =>true
 |_=>false
def zZ3:R->Bool
 | .all _| .any _=>true
 |_=>false
def stOk (n0:Kp) (k:Nat) (σ:St):R->Prop
 | .st _ σ'| .needst _ _ σ'=>σ.length<=σ'.length/\(k=3->KeepN n0 σ σ')
 |_=>True
def vtop (P:Program) (c:Ctx) (nt:Nat) (n0:Kp) (k:Nat) (d:Option Tmp) (op:Op) (K:KT) (e:Env) (σ:St):Prop:=
 match op with
 | .call ⟨.value f,args,_⟩=> ∃v σ',(if k=0 then∀s,VC P c (zD e f) (args.toList.map (zD e)) s (fun r s'=>r=v/\s'=s)else if k=1 then∀s,n0.of s=n0.of σ->VC P c (zD e f) (args.toList.map (zD e)) s (fun r s'=>r=v/\s'=s)else VC P c (zD e f) (args.toList.map (zD e)) σ (fun r s=>r=v/\s=σ'))/\
   (k<3->σ'=σ)/\(k=3->KeepN n0 σ σ')/\σ.length<=σ'.length/\vput nt d v K e σ'
 |op=>(k<3->hok P d e op)/\zZ3 (xP P d e σ op)=false/\(k=0->zd5 op=0)/\(k=1->(∃t x,op= .load t x/\imm n0 (zD e x)=true)∨(∀t x,op≠ .load t x)/\ ∀s,n0.of s=n0.of σ->evOp P e s op=evOp P e σ op)/\(isSt (xP P d e σ op)=true->3<=k)/\stOk n0 k σ (xP P d e σ op)/\vfin nt d (xP P d e σ op) K e σ
def vtr (P:Program) (c:Ctx) (nt:Nat) (n0:Kp) (ops:List Oper) (q:List (Nat×Nat)):Nat->List Oper->KT->Env->St->Prop
 |_,[],K,e,σ=>K e σ
 |i,o::os,K,e,σ=>vgd o.guard ops e (vtop P c nt n0 (zU q i o) o.dst o.op (vtr P c nt n0 ops q (i+1) os K) e σ) (vput nt o.dst (.tup []) (vtr P c nt n0 ops q (i+1) os K) e σ)
section
variable {P:Program} {c:Ctx} {nt:Nat} {n0:Kp}
variable {x:Operand}{t:TypeId}{op:Op}{ops:List Oper}{i:Nat}{y:Operand}{f:FuncId}{caps:List V}{args':List V}{KV:V->St->Prop}{q:List (Nat×Nat)}{n:Nat}{ts:Array TypeId}{s1:St}
theorem yl0 {d:Option Tmp} {v:V} {K:KT} {e:Env} {σ:St} (h:vput nt d v K e σ):(∀t,d=some t->t<nt)/\K (updO e d v) σ:=by
 cases d with
 |none=>exact⟨fun t q=>(by cases q),h⟩
 |some t=>exact⟨fun t' q=>by cases q;exact h.1,h.2⟩
theorem zp4 {ops:List Oper} {q:List (Nat×Nat)}: ∀(os:List Oper) (i:Nat) (K:KT) (e:Env) (σ:St),vtr P c nt n0 ops q i os K e σ->
  ∃tr,zu4 P c nt n0 ops q i os e σ tr/\K (fE (fun _=>true) i os tr e) (fS (fun _=>true) q i os tr σ)
 | [],i,K,e,σ,h=>⟨[],tV,h⟩
 |o::os,i,K,e,σ,h=>by
  have go: ∀(v:V) (σ':St),Fact P c nt n0 ops q i o e σ v σ'->vtr P c nt n0 ops q (i+1) os K (updO e o.dst v) σ'-> ∃tr,zu4 P c nt n0 ops q i (o::os) e σ tr/\K (fE (fun _=>true) i (o::os) tr e) (fS (fun _=>true) q i (o::os) tr σ):=by
   intro v σ' hf hk
   obtain⟨tr,ht,hK⟩:=zp4 os (i+1) K _ _ hk
   refine⟨(v,σ')::tr,⟨hf,ht⟩, ?_⟩
   rw[fE,fS,if_pos rfl]
   have:(if((fun _=>true) i&&decide (3<=zU q i o))=true then σ' else σ)=σ':=by
    by_cases h2:3<=zU q i o
    .rw[if_pos (by simp[h2])]
    .rw[if_neg (by simp[h2])];exact(hf.2.1 om).symm
   rw[this]
   exact hK
  have yes:(match o.guard with|none=>True|some (j,want)=> ∃t b,gdst ops j=some t/\e t= .bool b/\b=want)->vtop P c nt n0 (zU q i o) o.dst o.op (vtr P c nt n0 ops q (i+1) os K) e σ->
    ∃tr,zu4 P c nt n0 ops q i (o::os) e σ tr/\K (fE (fun _=>true) i (o::os) tr e) (fS (fun _=>true) q i (o::os) tr σ):=by
   intro hg hv
   have ah: ∃g:Bool,(match o.guard with|none=>g=true|some (j,want)=> ∃t,gdst ops j=some t/\((∃b,e t= .bool b/\g=(b==want))∨(e t= .tup []/\g=false)))/\g=true:=by
    refine⟨true, ?_,rfl⟩
    split
    .rfl
    .rename_i j want ai
     rw[ai]at hg
     obtain⟨t,b,h1,h2,h3⟩:=hg
     exact⟨t,h1,.inl ⟨b,h2,by simp[h3]⟩⟩
   obtain⟨g,af,rfl⟩:=ah
   unfold vtop at hv
   split at hv
   .rename_i f args ts ae
    obtain⟨v,σ',aj,ak,h3,hlen,hp⟩:=hv
    obtain⟨hd,hk⟩:=yl0 hp
    refine go v σ' ⟨hd,ak,h3,hlen,true,af, ?_⟩ hk
    rw[if_pos rfl,ae]
    exact aj
   .rename_i al
    obtain⟨an,ab,hz,ao,ag,aa,hv⟩:=hv
    have done: ∀v σ',(zU q i o<3->σ'=σ)->(zU q i o=3->KeepN n0 σ σ')->σ.length<=σ'.length->
      ((xP P o.dst e σ o.op= .ok v/\σ'=σ)∨(∃p,xP P o.dst e σ o.op= .need p v/\p/\σ'=σ)∨(3<=zU q i o/\(xP P o.dst e σ o.op= .st v σ'∨ ∃p,xP P o.dst e σ o.op= .needst p v σ'/\p)))->
      vput nt o.dst v (vtr P c nt n0 ops q (i+1) os K) e σ'-> ∃tr,zu4 P c nt n0 ops q i (o::os) e σ tr/\K (fE (fun _=>true) i (o::os) tr e) (fS (fun _=>true) q i (o::os) tr σ):=by
     intro v σ' h2 h3 hlen hf hp
     obtain⟨hd,hk⟩:=yl0 hp
     refine go v σ' ⟨hd,h2,h3,hlen,true,af, ?_⟩ hk
     rw[if_pos rfl]
     split
     .rename_i f args ts ae;exact absurd ae (al f args ts)
     .exact⟨an,hz,ao,hf⟩
    cases hr:xP P o.dst e σ o.op with
    |all f=>rw[hr]at ab;cases ab
    |any l=>rw[hr]at ab;cases ab
    |fail=>rw[hr]at hv;exact hv.elim
    |ok v=>rw[hr]at hv;exact done v σ (fun _=>rfl) (fun _=>KeepN.refl) (A5 _) (.inl ⟨hr,rfl⟩) hv
    |need p v=>rw[hr]at hv;exact done v σ (fun _=>rfl) (fun _=>KeepN.refl) (A5 _) (.inr (.inl ⟨p,hr,hv.1,rfl⟩)) hv.2
    |st v σ'=>
     rw[hr]at hv aa
     have h3:=ag (by rw[hr];rfl)
     exact done v σ' (fun h=>om) aa.2 aa.1 (.inr (.inr ⟨h3,.inl hr⟩)) hv
    |needst p v σ'=>
     rw[hr]at hv aa
     have h3:=ag (by rw[hr];rfl)
     exact done v σ' (fun h=>om) aa.2 aa.1 (.inr (.inr ⟨h3,.inr ⟨p,hr,hv.1⟩⟩)) hv.2
  have no:(∃j want t,o.guard=some (j,want)/\gdst ops j=some t/\((∃b,e t= .bool b/\b≠want)∨e t= .tup []))->vput nt o.dst (.tup []) (vtr P c nt n0 ops q (i+1) os K) e σ->
    ∃tr,zu4 P c nt n0 ops q i (o::os) e σ tr/\K (fE (fun _=>true) i (o::os) tr e) (fS (fun _=>true) q i (o::os) tr σ):=by
   rintro⟨j,want,t,hg,h1,h2⟩ hv
   obtain⟨hd,hk⟩:=yl0 hv
   refine go (.tup []) σ ⟨hd,fun _=>rfl,fun _=>KeepN.refl,A5 _,false, ?_, ?_⟩ hk
   .rw[hg]
    rcases h2 with ⟨b,h2,h3⟩|h2
    .exact⟨t,h1,.inl ⟨b,h2,by simp[h3]⟩⟩
    .exact⟨t,h1,.inr ⟨h2,rfl⟩⟩
   .rw[if_neg sm];exact⟨rfl,rfl⟩
  unfold vtr vgd at h
  split at h
  .rename_i hg;exact yes (by rw[hg];trivial) h
  .rename_i j want hg
   split at h
   .rename_i t ht
    unfold vgrd at h
    split at h
    .rename_i b hb
     by_cases ad:b=want
     .exact yes (by rw[hg];exact⟨t,b,ht,hb,ad⟩) (h.1 ad)
     .exact no ⟨j,want,t,hg,ht,.inl ⟨b,hb,ad⟩⟩ (h.2 ad)
    .rename_i hb
     exact no ⟨j,want,t,hg,ht,.inr hb⟩ h
    .exact h.elim
   .exact h.elim
def wtr (P:Program) (c:Ctx) (nt:Nat) (n0:Kp) (ops:List Oper) (q:List (Nat×Nat)) (i:Nat) (l:List Oper) (K:KT) (_:Fx ops) (_:Fx l) (_:Fx K) (e:Env) (σ:St):Prop:=vtr P c nt n0 ops q i l K e σ
def wtop (P:Program) (c:Ctx) (nt:Nat) (n0:Kp) (k:Nat) (d:Option Tmp) (op:Op) (K:KT) (_:Fx op) (_:Fx K) (e:Env) (σ:St):Prop:=vtop P c nt n0 k d op K e σ
def wVD (P:Program) (c:Ctx) (n0:Kp) (k:Nat) (fv:V) (az:List V) (σ:St) (K:V->St->Prop) (_:Fx K):Prop:=
 ∃v σ',(if k=0 then∀s,VC P c fv az s (fun r s'=>r=v/\s'=s)else if k=1 then∀s,n0.of s=n0.of σ->VC P c fv az s (fun r s'=>r=v/\s'=s)else VC P c fv az σ (fun r s=>r=v/\s=σ'))/\(k<3->σ'=σ)/\(k=3->KeepN n0 σ σ')/\σ.length<=σ'.length/\K v σ'
theorem yS {id:Nat} {Q:QT} {e:Env} {σ:St} (q:List (Nat×Nat)) (n0:Nat) (hn:σ.length=n0) (hm:P.follows .mixedOrders=true) (hd:(zz7 ops q&&zc4 ops)=true) (h:wtr P c nt (Kp.pre n0) ops q 0 ops (Q .normal) fx fx fx e σ):wVW P c nt (.region id ops.toArray true) Q fx fx e σ:=by
 simp only[A6]at hd
 obtain⟨tr,ht,hK⟩:=zp4 ops 0 (Q .normal) e σ h
 exact VW.draw (n0:=Kp.pre n0) hm (D2 hn.symm) hd.1 hd.2 ht hK
def xB0 (q:List (Nat×Nat)) (i:Nat) (op:Op):Nat:=match q.find? (·.1==i)with|some p=>min p.2 4|none=>zd5 op
variable {e:Env} {σ:St} {K:KT} {Q:QT} {d:Option Tmp} {k:Nat}
@[go_sem] theorem wtr_nil:wtr P c nt n0 ops q i [] K fx fx fx e σ=K e σ:=id rfl
@[go_sem] theorem wtr_cons {rest:List Oper} {ty:TypeId} {pos:String} {aft:Array Edge}:wtr P c nt n0 ops q i (⟨d,op,ty,pos,aft,none⟩::rest) K fx fx fx e σ=
  wtop P c nt n0 (xB0 q i op) d op (wtr P c nt n0 ops q (i+1) rest K fx fx fx) fx fx e σ:=id rfl
@[go_sem] theorem wtr_guard {rest:List Oper} {ty:TypeId} {pos:String} {aft:Array Edge} {j:Nat} {want:Bool}:wtr P c nt n0 ops q i (⟨d,op,ty,pos,aft,some (j,want)⟩::rest) K fx fx fx e σ=
  wgdo (wdst ops fx j) want e (wtop P c nt n0 (xB0 q i op) d op (wtr P c nt n0 ops q (i+1) rest K fx fx fx) fx fx e σ) (wput nt d (.tup []) (wtr P c nt n0 ops q (i+1) rest K fx fx fx) fx e σ) fx fx:=id rfl
attribute [go_sem] xB0 imm
theorem zu1 (op:Op) (h:zd5 op<3):isSt (evOp P e σ op)=false:=by
 cases op with
 |call cl=>
  obtain⟨aa,⟨args⟩,ts⟩:=cl
  cases aa with
  |builtin b=>
   cases b
   case len=>simp only[evOp];split<;>first|rfl|(rename_i heq;simp at heq;done)|(unfold zY9;(repeat' split)<;>rfl)
   case min=>simp only[evOp];unfold zA6;(repeat' split)<;>rfl
   case max=>simp only[evOp];unfold zA6;(repeat' split)<;>rfl
   all_goals first|(simp[zd5]at h;done)|rfl
  |_=>rfl
 |slice t x lo hi mx=>cases lo<;>cases hi<;>cases mx<;>simp only[evOp]<;>first|rfl|(unfold zm9;(repeat' split)<;>rfl)|(unfold zq4;(repeat' split)<;>rfl)
 |move x=>rfl
 |assign x=>rfl
 |pick x y z=>simp only[evOp];unfold zH4;(repeat' split)<;>rfl
 |build t ps=>simp only[evOp];unfold zx4;(repeat' split)<;>rfl
 |buildSlice t n ps=>simp only[evOp];unfold zb0;(repeat' split)<;>rfl
 |nilCheck x=>simp only[evOp];unfold zZ0;(repeat' split)<;>rfl
 |binOp o t x y t'=>simp only[evOp];unfold zt6 yN4 zq3 zs6 zO4 zP8;(repeat' split)<;>rfl
 |unOp o t x=>simp only[evOp];unfold evUn;(repeat' split)<;>rfl
 |convert t t' x=>simp only[evOp];unfold zD3;(repeat' split)<;>rfl
 |fieldAddr t x f=>simp only[evOp];unfold ze3;(repeat' split)<;>rfl
 |field t x f=>simp only[evOp];unfold zx6;(repeat' split)<;>rfl
 |indexAddr t x i=>simp only[evOp];unfold zi1;(repeat' split)<;>rfl
 |index t x i=>simp only[evOp];unfold zR1;(repeat' split)<;>rfl
 |extract x i=>simp only[evOp];unfold zm1;(repeat' split)<;>rfl
 |makeFunc fn l m=>simp only[evOp];unfold zH3;(repeat' split)<;>rfl
 |load t x=>simp only[evOp];unfold zh0;(repeat' split)<;>first|rfl|(unfold zl2;(repeat' split)<;>rfl)
 |_=>first|(simp[zd5]at h;done)|rfl
theorem ze6 (op:Op) (h: ∀o t x y t',op≠ .binOp o t x y t'):zZ3 (evOp P e σ op)=false:=by
 cases op with
 |call cl=>
  obtain⟨aa,⟨args⟩,ts⟩:=cl
  cases aa with
  |builtin b=>
   cases b
   case len=>simp only[evOp];split<;>first|rfl|(rename_i heq;simp at heq;done)|(unfold zY9;(repeat' split)<;>rfl)
   case append=>simp only[evOp];split<;>first|rfl|(rename_i heq;simp at heq;done)|(unfold zg9;(repeat' split)<;>rfl)
   case clear=>simp only[evOp];split<;>first|rfl|(rename_i heq;simp at heq;done)|(unfold zt4;(repeat' split)<;>rfl)
   case delete=>simp only[evOp];split<;>first|rfl|(rename_i heq;simp at heq;done)|(unfold zq2;(repeat' split)<;>rfl)
   case min=>simp only[evOp];unfold zA6;(repeat' split)<;>rfl
   case max=>simp only[evOp];unfold zA6;(repeat' split)<;>rfl
   all_goals rfl
  |_=>rfl
 |slice t x lo hi mx=>cases lo<;>cases hi<;>cases mx<;>simp only[evOp]<;>first|rfl|(unfold zm9;(repeat' split)<;>rfl)|(unfold zq4;(repeat' split)<;>rfl)
 |pick x y z=>simp only[evOp];unfold zH4;(repeat' split)<;>rfl
 |alloc t=>simp only[evOp];unfold zl1;(repeat' split)<;>rfl
 |box t x=>simp only[evOp];unfold zR0;(repeat' split)<;>rfl
 |store t x y=>simp only[evOp];unfold zt7;(repeat' split)<;>rfl
 |makeSlice t l m=>simp only[evOp];unfold zD5;(repeat' split)<;>rfl
 |build t ps=>simp only[evOp];unfold zx4;(repeat' split)<;>rfl
 |buildSlice t n ps=>simp only[evOp];unfold zb0;(repeat' split)<;>rfl
 |nilCheck x=>simp only[evOp];unfold zZ0;(repeat' split)<;>rfl
 |binOp o t x y t'=>exact absurd rfl (h o t x y t')
 |unOp o t x=>simp only[evOp];unfold evUn;(repeat' split)<;>rfl
 |convert t t' x=>simp only[evOp];unfold zD3;(repeat' split)<;>rfl
 |fieldAddr t x f=>simp only[evOp];unfold ze3;(repeat' split)<;>rfl
 |field t x f=>simp only[evOp];unfold zx6;(repeat' split)<;>rfl
 |indexAddr t x i=>simp only[evOp];unfold zi1;(repeat' split)<;>rfl
 |index t x i=>simp only[evOp];unfold zR1;(repeat' split)<;>rfl
 |extract x i=>simp only[evOp];unfold zm1;(repeat' split)<;>rfl
 |makeFunc fn l m=>simp only[evOp];unfold zH3;(repeat' split)<;>rfl
 |load t x=>simp only[evOp];unfold zh0;(repeat' split)<;>first|rfl|(unfold zl2;(repeat' split)<;>rfl)
 |makeMap t r=>simp only[evOp];unfold zm2;(repeat' split)<;>rfl
 |lookup t x k ok=>simp only[evOp];unfold xR;(repeat' split)<;>rfl
 |mapUpdate t x k v=>simp only[evOp];unfold xO;(repeat' split)<;>rfl
 |insert t x k v=>simp only[evOp];unfold xO;(repeat' split)<;>rfl
 |range t x=>simp only[evOp];unfold zx7;(repeat' split)<;>rfl
 |entry x=>simp only[evOp];unfold zi0;(repeat' split)<;>rfl
 |makeInterface t x=>simp only[evOp];unfold zY8;(repeat' split)<;>rfl
 |mapEntry t x k=>simp only[evOp];unfold xU;(repeat' split)<;>rfl
 |entryStore t x k v=>simp only[evOp];unfold xL;(repeat' split)<;>rfl
 |next x b=>cases b<;>simp only[evOp]<;>first|rfl|(unfold zh1;(repeat' split)<;>first|rfl|contradiction)
 |_=>rfl
theorem zr4 {r:R} (h:isSt r=false):stOk n0 k σ r:=by
 cases r<;>first|trivial|cases h
theorem zh9 (hA: ∀o t x y t',op≠ .binOp o t x y t') (hL: ∀e σ,wX P e σ op=evOp P e σ op) (h:zd5 op=0) (hc: ∀f az ts,op≠ .call ⟨.value f,az,ts⟩):wtop P c nt n0 0 d op K fx fx e σ=wop P c nt d op K fx fx e σ:=by
 show vtop P c nt n0 0 d op K e σ=vop P c nt d op K e σ
 have hh:hok P d e op:= .inr hL
 unfold vtop vop
 split
 .exact absurd rfl (hc _ _ _)
 .have:=zu1 (P:=P) (e:=e) (σ:=σ) op om
  split
  .exact absurd rfl (hc _ _ _)
  .have h2:stOk n0 0 σ (evOp P e σ op):=zr4 this
   rw[zo7 hh]
   simp[this,h,h2,hh,ze6 op hA]
theorem zX7 (hA: ∀o t x y t',op≠ .binOp o t x y t') (h:zd5 op=0) (hc: ∀f az ts,op≠ .call ⟨.value f,az,ts⟩):wtop P c nt n0 0 d op K fx fx e σ=zK3 (hok P d e op) (wop P c nt d op K fx fx e σ) fx:=by
 show vtop P c nt n0 0 d op K e σ=(hok P d e op/\vop P c nt d op K e σ)
 by_cases hh:hok P d e op
 .unfold vtop vop
  split
  .exact absurd rfl (hc _ _ _)
  .have:=zu1 (P:=P) (e:=e) (σ:=σ) op om
   split
   .exact absurd rfl (hc _ _ _)
   .have h3:stOk n0 0 σ (evOp P e σ op):=zr4 this
    rw[zo7 hh]
    simp[this,h,h3,hh,ze6 op hA]
 .unfold vtop
  split
  .exact absurd rfl (hc _ _ _)
  .simp[hh]
@[go_sem] theorem hok_t (h:zd3 e d=false):hok P d e op=True:=by simp[hok,h]
theorem zR5:hok P d e (.load t x):= .inr fun _ _=>rfl
theorem xa5:wtop P c nt n0 1 d (.load t x) K fx fx e σ=zK3 (imm n0 (zD e x)=true) (wop P c nt d (.load t x) K fx fx e σ) fx:=by
 show vtop P c nt n0 1 d (.load t x) K e σ=(_/\vop P c nt d (.load t x) K e σ)
 have:=zu1 (P:=P) (e:=e) (σ:=σ) (.load t x) (show 1<3 by omega)
 have h2:stOk n0 1 σ (evOp P e σ (.load t x)):=zr4 this
 have hA:=ze6 (P:=P) (e:=e) (σ:=σ) (.load t x) (fun _ _ _ _ _ h=>by cases h)
 simp only[vtop,vop,this,h2,zo7 zR5,hA]
 refine propext ⟨fun h=> ?_,fun h=> ?_⟩
 .obtain⟨_,_,_,h1,_,_,h3⟩:=h
  rcases h1 trivial with ⟨t',x',aa,ab⟩|⟨ad,_⟩
  .cases aa
   exact⟨ab,h3⟩
  .exact absurd rfl (ad t x)
 .exact⟨fun _=>zR5,tV,fun q=>by simp at q,fun _=> .inl ⟨t,x,rfl,h.1⟩,fun q=>by simp at q,tV,h.2⟩
theorem xa6:wtop P c nt n0 2 d (.load t x) K fx fx e σ=wop P c nt d (.load t x) K fx fx e σ:=by
 show vtop P c nt n0 2 d (.load t x) K e σ=vop P c nt d (.load t x) K e σ
 have:=zu1 (P:=P) (e:=e) (σ:=σ) (.load t x) (show 1<3 by omega)
 have h2:stOk n0 2 σ (evOp P e σ (.load t x)):=zr4 this
 have hA:=ze6 (P:=P) (e:=e) (σ:=σ) (.load t x) (fun _ _ _ _ _ h=>by cases h)
 simp[vtop,vop,this,h2,zo7 zR5,zR5,hA]
theorem zX3:stOk n0 4 σ (evOp P e σ op):=by
 by_cases h:zd5 op<3
 .exact zr4 (zu1 op h)
 .cases op with
  |alloc t=>simp only[evOp];unfold zl1;(repeat' split)<;>first|trivial|exact⟨sm,fun h=>om⟩
  |box t x=>simp only[evOp];unfold zR0;(repeat' split)<;>first|trivial|exact⟨sm,fun h=>om⟩
  |store t x y=>simp only[evOp];unfold zt7;(repeat' split)<;>first|trivial|exact⟨sm,fun h=>om⟩
  |makeSlice t l m=>simp only[evOp];unfold zD5;(repeat' split)<;>first|trivial|exact⟨sm,fun h=>om⟩
  |makeMap t r=>simp only[evOp];unfold zm2;(repeat' split)<;>first|trivial|exact⟨sm,fun h=>om⟩
  |lookup t x k ok=>simp only[evOp];unfold xR;(repeat' split)<;>trivial
  |mapUpdate t x k v=>simp only[evOp];unfold xO;(repeat' split)<;>first|trivial|exact⟨sm,fun h=>om⟩
  |insert t x k v=>simp only[evOp];unfold xO;(repeat' split)<;>first|trivial|exact⟨sm,fun h=>om⟩
  |range t x=>simp only[evOp];unfold zx7;(repeat' split)<;>first|trivial|exact⟨sm,fun h=>om⟩
  |entry x=>simp only[evOp];unfold zi0;(repeat' split)<;>trivial
  |makeInterface t x=>simp only[evOp];unfold zY8;(repeat' split)<;>trivial
  |mapEntry t x k=>simp only[evOp];unfold xU;(repeat' split)<;>first|trivial|exact⟨sm,fun h=>om⟩
  |entryStore t x s v=>simp only[evOp];unfold xL;(repeat' split)<;>first|trivial|exact⟨sm,fun h=>om⟩
  |next x b=>cases b<;>simp only[evOp]<;>first|trivial|(unfold zh1;(repeat' split)<;>first|trivial|exact⟨sm,fun h=>om⟩)
  |call cl=>
   obtain⟨aa,⟨args⟩,ts⟩:=cl
   cases aa with
   |builtin b=>
    cases b
    case append=>simp only[evOp];split<;>first|trivial|(rename_i heq;simp at heq;done)|(unfold zg9;(repeat' split)<;>first|trivial|exact⟨sm,fun h=>om⟩)
    case clear=>simp only[evOp];split<;>first|trivial|(rename_i heq;simp at heq;done)|(unfold zt4;(repeat' split)<;>first|trivial|exact⟨sm,fun h=>om⟩)
    case delete=>simp only[evOp];split<;>first|trivial|(rename_i heq;simp at heq;done)|(unfold zq2;(repeat' split)<;>first|trivial|exact⟨sm,fun h=>om⟩)
    all_goals first|(simp[zd5]at h;done)|trivial
   |_=>trivial
  |slice t x lo hi mx=>simp[zd5]at h
  |_=>first|(simp[zd5]at h;done)|trivial
theorem zZ1 (op:Op) (hA: ∀o t x y t',op≠ .binOp o t x y t') (hN: ∀x b,op≠ .next x b):zZ3 (wX P e σ op)=false:=by
 have h:=ze6 (P:=P) (e:=e) (σ:=σ) op hA
 cases op with
 |buildSlice t n ps=>simp only[wX];unfold wU;(repeat' split)<;>rfl
 |makeSlice t l m=>simp only[wX];unfold zt5;(repeat' split)<;>rfl
 |convert t t' x=>simp only[wX];unfold zx5;(repeat' split)<;>rfl
 |slice t x lo hi mx=>
  cases lo with
  |none=>exact h
  |some lo=>cases hi with
   |some _=>exact h
   |none=>cases mx with
    |some _=>exact h
    |none=>simp only[wX];unfold zq5;(repeat' split)<;>rfl
 |next x b=>exact absurd rfl (hN x b)
 |call cl=>
  obtain⟨aa,⟨args⟩,ts⟩:=cl
  cases aa with
  |builtin b=>
   cases b
   case append=>simp only[wX];split<;>first|exact h|(rename_i heq;simp at heq;done)|(unfold ze0;(repeat' split)<;>rfl)
   all_goals exact h
  |_=>exact h
 |_=>exact h
theorem yZ3:stOk n0 4 σ (wX P e σ op):=by
 have h:stOk n0 4 σ (evOp P e σ op):=zX3
 cases op with
 |buildSlice t n ps=>simp only[wX];unfold wU;(repeat' split)<;>first|trivial|exact⟨sm,fun h=>om⟩
 |makeSlice t l m=>simp only[wX];unfold zt5;(repeat' split)<;>first|trivial|exact⟨sm,fun h=>om⟩
 |convert t t' x=>simp only[wX];unfold zx5;(repeat' split)<;>first|trivial|exact⟨sm,fun h=>om⟩
 |slice t x lo hi mx=>
  cases lo with
  |none=>exact h
  |some lo=>cases hi with
   |some _=>exact h
   |none=>cases mx with
    |some _=>exact h
    |none=>simp only[wX];unfold zq5;(repeat' split)<;>first|trivial|exact⟨sm,fun h=>om⟩
 |next x b=>cases b<;>simp only[wX]<;>first|exact h|(unfold zh1;(repeat' split)<;>first|trivial|exact⟨sm,fun h=>om⟩)
 |call cl=>
  obtain⟨aa,⟨args⟩,ts⟩:=cl
  cases aa with
  |builtin b=>
   cases b
   case append=>simp only[wX];split<;>first|exact h|(rename_i heq;simp at heq;done)|(unfold ze0;(repeat' split)<;>first|trivial|exact⟨sm,fun h=>om⟩)
   all_goals exact h
  |_=>exact h
 |_=>exact h
theorem zX8 (hA: ∀o t x y t',op≠ .binOp o t x y t') (hN: ∀x b,op≠ .next x b) (hc: ∀f az ts,op≠ .call ⟨.value f,az,ts⟩):wtop P c nt n0 4 d op K fx fx e σ=wop P c nt d op K fx fx e σ:=by
 show vtop P c nt n0 4 d op K e σ=vop P c nt d op K e σ
 have h1:zZ3 (xP P d e σ op)=false:=by
  unfold xP
  split
  .exact zZ1 op hA hN
  .exact ze6 op hA
 have h2:stOk n0 4 σ (xP P d e σ op):=by
  unfold xP
  split
  .exact yZ3
  .exact zX3
 unfold vtop vop
 split
 .exact absurd rfl (hc _ _ _)
 .split
  .exact absurd rfl (hc _ _ _)
  .refine propext ⟨fun q=>q.2.2.2.2.2.2,fun q=>⟨fun q=>om,h1,fun q=>by simp at q,fun q=>by simp at q,fun _=>om,h2,q⟩⟩
theorem zU3 (hA: ∀o t x y t',op≠ .binOp o t x y t') (hN: ∀x b,op≠ .next x b) (_: ∀e σ,wX P e σ op=evOp P e σ op) (hc: ∀f az ts,op≠ .call ⟨.value f,az,ts⟩):wtop P c nt n0 4 d op K fx fx e σ=wop P c nt d op K fx fx e σ:=zX8 hA hN hc
theorem zz5 (hA: ∀o t x y t',op≠ .binOp o t x y t') (hL: ∀e σ,wX P e σ op=evOp P e σ op) (h2:stOk n0 3 σ (evOp P e σ op)) (hc: ∀f az ts,op≠ .call ⟨.value f,az,ts⟩):wtop P c nt n0 3 d op K fx fx e σ=wop P c nt d op K fx fx e σ:=by
 show vtop P c nt n0 3 d op K e σ=vop P c nt d op K e σ
 have hh:hok P d e op:= .inr hL
 unfold vtop vop
 split
 .exact absurd rfl (hc _ _ _)
 .split
  .exact absurd rfl (hc _ _ _)
  .rw[zo7 hh];simp[h2,hh,ze6 op hA]
def Kp.out (k:Kp) (id:Nat):Bool:=(decide (id<k.x)&&k.ob.isNone)||decide (k.n<=id)
@[go_sem] theorem Kp.out_pre {id:Nat}:(Kp.mk 0 n [] none).out id=decide (n<=id):=by simp[Kp.out]
@[go_sem] theorem Kp.out_but {x id:Nat}:(Kp.mk (x+1) n [] none).out id=(decide (id<x+1)||decide (n<=id)):=by simp[Kp.out]
def zc2 (n0:Kp):V->Bool
 | .ptr id _=>n0.out id
 | .lsp id _ _ _ _=>n0.out id
 |_=>false
attribute [go_sem] zc2
@[go_sem] theorem wtop_store3 (h:zc2 n0 (zD e x)=true):wtop P c nt n0 3 d (.store t x y) K fx fx e σ=wop P c nt d (.store t x y) K fx fx e σ:=
 zz5 (fun _ _ _ _ _ h=>by cases h) (fun _ _=>rfl) (by
  simp only[evOp]
  unfold zt7
  split
  .rename_i id off hx
   rw[hx]at h
   have h:n0.out id=true:=h
   simp only[Kp.out,Bv,A6,Option.isNone_iff_eq_none,decide_eq_true_eq]at h
   (repeat' split)<;>first|trivial|exact⟨sm,fun _=> .inr (Kp.of_set h)⟩
  .rename_i id s n k j hx
   rw[hx]at h
   have h:n0.out id=true:=h
   simp only[Kp.out,Bv,A6,Option.isNone_iff_eq_none,decide_eq_true_eq]at h
   (repeat' split)<;>first|trivial|exact⟨sm,fun _=> .inr (Kp.of_set h)⟩
  .trivial) (fun _ _ _ h=>by cases h)
@[go_sem] theorem wtop_move:wtop P c nt n0 0 d (.move x) K fx fx e σ=wop P c nt d (.move x) K fx fx e σ:=zh9 (fun _ _ _ _ _ h=>by cases h) (fun _ _=>rfl) rfl (fun _ _ _ h=>by cases h)
@[go_sem] theorem wtop_assign:wtop P c nt n0 0 d (.assign x) K fx fx e σ=wop P c nt d (.assign x) K fx fx e σ:=zh9 (fun _ _ _ _ _ h=>by cases h) (fun _ _=>rfl) rfl (fun _ _ _ h=>by cases h)
@[go_sem] theorem wtop_pick {z:Operand}:wtop P c nt n0 0 d (.pick x y z) K fx fx e σ=wop P c nt d (.pick x y z) K fx fx e σ:=zh9 (fun _ _ _ _ _ h=>by cases h) (fun _ _=>rfl) rfl (fun _ _ _ h=>by cases h)
@[go_sem] theorem wtop_build {l:Array (Nat×Operand)}:wtop P c nt n0 0 d (.build t l) K fx fx e σ=wop P c nt d (.build t l) K fx fx e σ:=zh9 (fun _ _ _ _ _ h=>by cases h) (fun _ _=>rfl) rfl (fun _ _ _ h=>by cases h)
@[go_sem] theorem wtop_buildSlice {l:Array (Nat×Operand)}:wtop P c nt n0 0 d (.buildSlice t n l) K fx fx e σ=zK3 (hok P d e (.buildSlice t n l)) (wop P c nt d (.buildSlice t n l) K fx fx e σ) fx:=zX7 (fun _ _ _ _ _ h=>by cases h) rfl (fun _ _ _ h=>by cases h)
@[go_sem] theorem wtop_nil:wtop P c nt n0 0 d (.nilCheck x) K fx fx e σ=wop P c nt d (.nilCheck x) K fx fx e σ:=zh9 (fun _ _ _ _ _ h=>by cases h) (fun _ _=>rfl) rfl (fun _ _ _ h=>by cases h)
theorem xs9 {op:BinOp} {t':TypeId}:wtop P c nt n0 0 d (.binOp op t x y t') K fx fx e σ=zK3 (zZ3 (wh (zg5 y) (zt6 op (eqK P t) (zD e x)) (wh (zf0 y) (zq3 op (zh4 P t) (zD e x)) (zs6 op (eqK P t) (eqS P t) (zD e x) (zD e y))))=false) (wop P c nt d (.binOp op t x y t') K fx fx e σ) fx:=by
 show vtop P c nt n0 0 d (.binOp op t x y t') K e σ=(zZ3 (evOp P e σ (.binOp op t x y t'))=false/\vop P c nt d (.binOp op t x y t') K e σ)
 have hh:hok P d e (.binOp op t x y t'):= .inr fun _ _=>rfl
 have h1:=zu1 (P:=P) (e:=e) (σ:=σ) (.binOp op t x y t') (show 0<3 by omega)
 have h2:stOk n0 0 σ (evOp P e σ (.binOp op t x y t')):=zr4 h1
 simp[vtop,vop,zo7 hh,hh,h1,h2,zd5]
attribute [go_sem] xs9 zZ3
@[go_sem] theorem wtop_un {op:UnOp}:wtop P c nt n0 0 d (.unOp op t x) K fx fx e σ=wop P c nt d (.unOp op t x) K fx fx e σ:=zh9 (fun _ _ _ _ _ h=>by cases h) (fun _ _=>rfl) rfl (fun _ _ _ h=>by cases h)
@[go_sem] theorem wtop_conv {t':TypeId}:wtop P c nt n0 0 d (.convert t t' x) K fx fx e σ=zK3 (hok P d e (.convert t t' x)) (wop P c nt d (.convert t t' x) K fx fx e σ) fx:=zX7 (fun _ _ _ _ _ h=>by cases h) rfl (fun _ _ _ h=>by cases h)
@[go_sem] theorem wtop_slice {lo hi mx:Option Operand}:wtop P c nt n0 0 d (.slice t x lo hi mx) K fx fx e σ=zK3 (hok P d e (.slice t x lo hi mx)) (wop P c nt d (.slice t x lo hi mx) K fx fx e σ) fx:=zX7 (fun _ _ _ _ _ h=>by cases h) rfl (fun _ _ _ h=>by cases h)
@[go_sem] theorem wtop_fieldAddr {f:Nat}:wtop P c nt n0 0 d (.fieldAddr t x f) K fx fx e σ=wop P c nt d (.fieldAddr t x f) K fx fx e σ:=zh9 (fun _ _ _ _ _ h=>by cases h) (fun _ _=>rfl) rfl (fun _ _ _ h=>by cases h)
@[go_sem] theorem wtop_idxAddr {i:Operand}:wtop P c nt n0 0 d (.indexAddr t x i) K fx fx e σ=wop P c nt d (.indexAddr t x i) K fx fx e σ:=zh9 (fun _ _ _ _ _ h=>by cases h) (fun _ _=>rfl) rfl (fun _ _ _ h=>by cases h)
@[go_sem] theorem wtop_idx {i:Operand}:wtop P c nt n0 0 d (.index t x i) K fx fx e σ=wop P c nt d (.index t x i) K fx fx e σ:=zh9 (fun _ _ _ _ _ h=>by cases h) (fun _ _=>rfl) rfl (fun _ _ _ h=>by cases h)
@[go_sem] theorem wtop_extract:wtop P c nt n0 0 d (.extract x i) K fx fx e σ=wop P c nt d (.extract x i) K fx fx e σ:=zh9 (fun _ _ _ _ _ h=>by cases h) (fun _ _=>rfl) rfl (fun _ _ _ h=>by cases h)
@[go_sem] theorem wtop_len {l:Array Operand}:wtop P c nt n0 0 d (.call ⟨.builtin .len,l,ts⟩) K fx fx e σ=wop P c nt d (.call ⟨.builtin .len,l,ts⟩) K fx fx e σ:=zh9 (fun _ _ _ _ _ h=>by cases h) (fun _ _=>rfl) rfl (fun _ _ _ h=>by cases h)
@[go_sem] theorem wtop_store:wtop P c nt n0 4 d (.store t x y) K fx fx e σ=wop P c nt d (.store t x y) K fx fx e σ:=zU3 (fun _ _ _ _ _ h=>by cases h) (fun _ _ h=>by cases h) (fun _ _=>rfl) (fun _ _ _ h=>by cases h)
@[go_sem] theorem wtop_append {l:Array Operand}:wtop P c nt n0 4 d (.call ⟨.builtin .append,l,ts⟩) K fx fx e σ=wop P c nt d (.call ⟨.builtin .append,l,ts⟩) K fx fx e σ:=zX8 (fun _ _ _ _ _ h=>by cases h) (fun _ _ h=>by cases h) (fun _ _ _ h=>by cases h)
@[go_sem] theorem wtop_alloc:wtop P c nt n0 3 d (.alloc t) K fx fx e σ=wop P c nt d (.alloc t) K fx fx e σ:=zz5 (fun _ _ _ _ _ h=>by cases h) (fun _ _=>rfl) (by
 simp only[evOp];unfold zl1;split<;>first|trivial|exact⟨sm,fun _=> .inl ⟨_,rfl⟩⟩) (fun _ _ _ h=>by cases h)
attribute [go_sem] xa5 xa6
@[go_sem] theorem wtop_call {f:Operand} {l:List Operand}:wtop P c nt n0 k d (.call ⟨.value f,l.toArray,ts⟩) K fx fx e σ=wVD P c n0 k (zD e f) (l.map (zD e)) σ (xK2 nt d K fx e) fx:=id rfl
attribute [go_sem] zd5
theorem zh8 {args:List V} {v:V} (hc:Pure P f args' v) (hb:wB P f=true) (aa: ∀N,All2 (argS (ren [] N)) args' (args++caps)) (hn:noS v=true) (hk:KV v σ):
  wVD P c n0 0 (.fn f caps) args σ KV fx:=by
 refine⟨v,σ, ?_,fun _=>rfl,fun _=>KeepN.refl,A5 _,hk⟩
 rw[if_pos rfl]
 exact fun s=>zJ (P:=P) (c:=c) (KV:=fun r s'=>r=v/\s'=s) hc hb (aa _) hn ⟨rfl,rfl⟩
theorem zn2 {sel:List Nat} {σ:St}:(xD sel σ s1).length=σ.length+(s1.length - sel.length):=by
 simp[xD,wZ]
theorem xJ0 {args:List V} {σin:St} {v:V} (hc:VCalls P f args' σin (fun r s=>r=v/\s=s1)) (hb:wB P f=true) (sel:List Nat) (ab:sel.Nodup) (hlen:σin.length=sel.length)
  (ad: ∀(i j:Nat) (o:Ob),sel[i]? =some j->σin[i]? =some o->σ[j]? =some (yF (ren sel σ.length) o)) (aa:All2 (argS (ren sel σ.length)) args' (args++caps))
  (hk:KV (renS (ren sel σ.length) v) (xD sel σ s1)):wVD P c n0 4 (.fn f caps) args σ KV fx:=by
 refine⟨_,_, ?_,fun h=>om,fun h=>om,by rw[zn2];omega,hk⟩
 rw[if_neg dC,if_neg dC]
 refine VC.of hc hb sel ab hlen ad aa ?_
 rintro r s ⟨rfl,rfl⟩ _
 exact⟨rfl,rfl⟩
theorem yS4 {args:List V} {σin:St} {v:V} (hc:VCalls P f args' σin (fun r s=>r=v/\s=s1)) (hb:wB P f=true) (sel:List Nat) (ad:sel.Nodup) (hlen:σin.length=sel.length)
  (ae: ∀(i j:Nat) (o:Ob),sel[i]? =some j->σin[i]? =some o->σ[j]? =some (yF (ren sel σ.length) o)) (aa:All2 (argS (ren sel σ.length)) args' (args++caps)) (ab:KeepN n0 σ (xD sel σ s1))
  (hk:KV (renS (ren sel σ.length) v) (xD sel σ s1)):wVD P c n0 3 (.fn f caps) args σ KV fx:=by
 refine⟨_,_, ?_,fun h=>om,fun _=>ab,by rw[zn2];omega,hk⟩
 rw[if_neg dC,if_neg dC]
 refine VC.of hc hb sel ad hlen ae aa ?_
 rintro r s ⟨rfl,rfl⟩ _
 exact⟨rfl,rfl⟩
theorem xJ1 {args:List V} {v:V} (hc:Pure P f args' v) (hb:wB P f=true) (hf: ∀s,n0.of s=n0.of σ-> ∃aa σ1,Frz (args++caps) s aa σ1/\All2 (argS (ren [] σ1.length)) args' aa)
  (ab:yK0 v=true) (hk:KV v σ):wVD P c n0 1 (.fn f caps) args σ KV fx:=by
 refine⟨v,σ, ?_,fun _=>rfl,fun h=>om,A5 _,hk⟩
 rw[if_neg dC,if_pos rfl]
 intro s hs
 obtain⟨aa,σ1,h1,h2⟩:=hf s hs
 exact VC.view hc hb h1 h2 (fun r s h=>⟨h.2,by rw[h.1];exact ab⟩) fun r h=>⟨h.1,rfl⟩
end
def At (n0:Nat) (keep:List Nat) (vs:List V) (s:St) (e:Env) (σ:St):Prop:=
 ∃pick,Picks n0 pick σ s/\All2 (argS (ren pick σ.length)) vs (keep.map e)
def Next {S:Type} (p:S->Prop) (_:Fx p):Prop:= ∃s,p s
theorem zG {S:Type} {p:S->Prop} (s:S) (h:p s):Next p fx:=⟨s,h⟩
section
variable {P:Program} {c:Ctx} {nt:Nat} {e:Env} {σ:St} {a:Act} {w:World} {L:Nat->Nat} {β:List Value} {Q:QT} {n0:Nat}
variable {keep:List Nat}{y:Code}{f:FuncId}{code:Code}{x:Code}{fn:Func}{rs:List ResultVar}{caps:List V}{args':List V}{KV:V->St->Prop}
theorem zA (h:zt1 P c nt code Q fx fx e σ):wVW P c nt code Q fx fx e σ:=zf5 code Q e σ h
theorem zU2 {K:KT} (h:wVW P c nt x (ya8 K Q fx fx) fx fx e σ) (hy: ∀e' σ',K e' σ'->wVW P c nt y Q fx fx e' σ'):wVW P c nt (.seq x y) Q fx fx e σ:=by
 intro a w L β hs
 refine wp_seq (wp_mono (h a w L β hs) fun ex a' w' q=> ?_)
 cases ex with
 |normal=>obtain⟨e',σ',L',β',aa,hq⟩:=q;exact hy e' σ' hq a' w' L' β' aa
 |exit id=>exact q
 |goto l=>exact q
 |ret=>exact q
 |panic ch=>exact q
 |outgrown=>exact q
theorem zO (h:wVW P c nt x (ya8 (wVW P c nt y Q fx fx) Q fx fx) fx fx e σ):wVW P c nt (.seq x y) Q fx fx e σ:=zU2 h fun _ _ h=>h
theorem za4 {id:Nat} {b:Code} (h:wVW P c nt b (wblk id Q fx) fx fx e σ):wVW P c nt (.block id b) Q fx fx e σ:=by
 intro a w L β hs
 refine wp_block (wp_mono (h a w L β hs) fun ex a' w' q=> ?_)
 cases ex with
 |exit aa=>
  obtain⟨e',σ',L',β',ab,hq⟩:=q
  change (if aa=id then Q .normal e' σ' else Q (.exit aa) e' σ')at hq
  change (if aa=id then Lift c nt Q .normal a' w' else Lift c nt Q (.exit aa) a' w')
  split
  .rename_i hid
   rw[if_pos hid]at hq
   exact⟨e',σ',L',β',ab,hq⟩
  .rename_i hid
   rw[if_neg hid]at hq
   exact⟨e',σ',L',β',ab,hq⟩
 |normal=>exact q
 |goto l=>exact q
 |ret=>exact q
 |panic ch=>exact q
 |outgrown=>exact q
theorem zU1 {b:Bool} {x:Operand} {t f:Code} (hx:zD e x= .bool b) (ht:b=true->wVW P c nt t Q fx fx e σ) (hf:b=false->wVW P c nt f Q fx fx e σ):wVW P c nt (.cond x t f) Q fx fx e σ:=by
 intro a w L β hs
 have hv:=hs.eval x
 rw[hx]at hv
 exact wp_cond_split (zd0 hv) (fun h=>ht h a w L β hs) (fun h=>hf h a w L β hs)
theorem we2 {vs:List V} {s:St} (hn:c.σ0.length=n0) (hc:c.β0.length=c.σ0.length) (hk:At n0 keep vs s e σ) (hy:wVW P c nt y Q fx fx (envK (keep.zip vs)) s):wVW P c nt y Q fx fx e σ:=by
 intro a w L β hs
 subst hn
 obtain⟨pick,hp,aa⟩:=hk
 obtain⟨vs',s',β',⟨rfl,rfl⟩,_,ab⟩:=zP6 (Inv:=fun vs' s' _=>vs'=vs/\s'=s) (m:=0) hs hc ⟨vs,s,pick,hp,aa,rfl,rfl⟩
 exact hy a w L β' ab
theorem ze9 {S:Type} (keep:List Nat) (aa:S->List V) (ab:S->St) (I:S->Prop) (hn:c.σ0.length=n0) (hc:c.β0.length=c.σ0.length)
  (hx:wVW P c nt x (ya8 (fun e' σ'=>Next (fun s=>I s/\At n0 keep (aa s) (ab s) e' σ') fx) Q fx fx) fx fx e σ)
  (hy: ∀s,I s->wVW P c nt y Q fx fx (envK (keep.zip (aa s))) (ab s)):wVW P c nt (.seq x y) Q fx fx e σ:=
 zU2 hx fun _ _ ⟨s,hI,ad⟩=>we2 hn hc ad (hy s hI)
theorem zH {body:Code} {S:Type} (keep:List Nat) (aa:S->List V) (ad:S->St) (ab:S->Nat) (I:S->Prop) (hn:c.σ0.length=n0) (hc:c.β0.length=c.σ0.length)
  (s0:S) (hI:I s0) (h0:At n0 keep (aa s0) (ad s0) e σ)
  (hr: ∀s,I s->wVW P c nt body (ya8 (fun e' σ'=>Next (fun s'=>ab s'<ab s/\I s'/\At n0 keep (aa s') (ad s') e' σ') fx) Q fx fx) fx fx (envK (keep.zip (aa s))) (ad s)):wVW P c nt (.loop body) Q fx fx e σ:=by
 subst hn
 intro a w L β hs
 refine ya7 (fun m a w=> ∃s L β,m=ab s/\I s/\Sim c nt (envK (keep.zip (aa s))) (ad s) a w L β) (ab s0) ?_ ?_
 .obtain⟨pick,hp,ae⟩:=h0
  obtain⟨vs',s',β',⟨rfl,rfl⟩,_,af⟩:=zP6 (Inv:=fun vs' s' _=>vs'=aa s0/\s'=ad s0) (m:=0) hs hc ⟨_,_,pick,hp,ae,rfl,rfl⟩
  exact⟨s0,L,β',rfl,hI,af⟩
 .rintro m a w ⟨s,L,β,rfl,ag,hs⟩
  refine wp_mono (hr s ag a w L β hs) fun x a' w' q=> ?_
  cases x with
  |normal=>
   obtain⟨e',σ',L',β',af,s',ah,ai,pick,hp,ae⟩:=q
   obtain⟨vs',s2,β2,⟨rfl,rfl⟩,_,aj⟩:=zP6 (Inv:=fun vs' s2 _=>vs'=aa s'/\s2=ad s') (m:=0) af hc ⟨_,_,pick,hp,ae,rfl,rfl⟩
   exact⟨ab s',ah,s',L',β2,rfl,ai,aj⟩
  |exit id=>exact q
  |goto l=>exact q
  |ret=>exact q
  |panic ch=>exact q
  |outgrown=>exact q
theorem zN {ρ:Nat->Nat} {l m:List V} (h:l=m) (hn:l.all noS=true):All2 (argS ρ) l m:=by subst h;exact yC hn
theorem zb4 {n N:Nat}: ∀{l:List V},l.all (ltS n)=true->All2 (argS (ren (List.range n) N)) l l
 | [],_=>trivial
 |v::l,h=>by
  simp only[Ar,A6]at h
  exact⟨zg2 h.1,zb4 h.2⟩
theorem zF {n N:Nat} {l m:List V} (h:l=m) (hn:l.all (ltS n)=true):All2 (argS (ren (List.range n) N)) l m:=by subst h;exact zb4 hn
theorem at_0 {vs:List V} {ρN:Nat} (hN:σ.length=ρN) (h:All2 (argS (ren [] ρN)) vs (keep.map e)):At 0 keep vs [] e σ:=by
 subst hN
 exact⟨[],⟨rfl,D9,fun i j o h=>by simp at h,fun i h=>absurd h (Bc i)⟩,h⟩
theorem at_n (k:Nat) {vs:List V} {s:St} (hs:σ.take k=s) (hk:s.length=k) (hok:s.all (ltOb k)=true) (hn:n0<=k) (h:All2 (argS (ren (List.range k) σ.length)) vs (keep.map e)):At n0 keep vs s e σ:=by
 subst hs
 have h1:σ.take k++σ.drop k=σ:=Bf k σ
 have hp:=yu4 (n0:=n0) (s:=σ.take k) (loc:=σ.drop k) (by rw[hk];exact hok) (by rw[hk];exact hn)
 rw[h1,hk]at hp
 exact⟨_,hp,h⟩
theorem zC9 (pick:List Nat) {vs:List V} {s:St} (ad:pick.Nodup) (hn:n0=0) (aa:All2 (fun o j=>σ[j]? =some (yF (ren pick σ.length) o)) s pick) (h:All2 (argS (ren pick σ.length)) vs (keep.map e)):At n0 keep vs s e σ:=by
 subst hn
 refine⟨pick,⟨aa.length,ad,fun i j o hi ho=> ?_,fun i h=>absurd h (Bc i)⟩,h⟩
 obtain⟨j',ab,hr⟩:=aa.get i o ho
 rw[hi]at ab
 cases ab
 exact hr
theorem VCalls.introV {nt:Nat} {args:List V} {R:V->St->Prop} (n0:Nat) (hf:P.funcs[f]? =some fn) (aa:fn.ntmps=nt) (ab:fn.results=rs.toArray) (hb:fn.body=some code) (h0:σ.length=n0) (ad:args.length<=nt)
  (h: ∀c:Ctx,c.σ0.length=n0->c.β0.length=c.σ0.length->wVW P c nt code (retQ P rs n0 R) fx fx (envA 0 args) σ):VCalls P f args σ R:=VCalls.introW n0 hf aa ab hb h0 ad h
theorem zr9 (t:Nat) (hn:nt<=100000) (hy:wVW P c nt y Q fx fx (upd e (100000+t) (.tup [])) σ):wVW P c nt y Q fx fx e σ:=by
 intro a w L β hs
 refine hy a w L β ⟨hs.mem,hs.size,hs.defs,fun k=> ?_⟩
 simp only[upd]
 split
 .rename_i hk
  subst hk
  refine⟨[], ?_,tV⟩
  have: ¬(100000+t<a.tmps.size):=by rw[hs.size];omega
  simp[Array.getD,this,undef]
 .exact hs.env k
theorem zo2 (id s:Nat) (rows:List (List V)) (hσ:σ[id]? =some (.lst rows s)) (hp:xM rows=true) (hy:wVW P c nt y Q fx fx (fun t=>frzS id rows (e t)) (zj7 id rows σ)):wVW P c nt y Q fx fx e σ:=by
 intro a w L β hs
 obtain⟨h1,h2,h3,h4⟩:=xd6 hs.mem hσ hp
 exact hy a w _ β ⟨h1,hs.size,hs.defs,fun t=>h4 _ _ (hs.env t)⟩
theorem yS3 {args ab:List V} {v:V} {σ1:St} (hc:Pure P f args' v) (hb:wB P f=true) (hf:Frz (args++caps) σ ab σ1)
  (aa:All2 (argS (ren [] σ1.length)) args' ab) (ad:yK0 v=true) (hk:KV v σ):wVC P c (.fn f caps) args σ KV fx:=
 VC.view hc hb hf aa (fun r s h=>⟨h.2,by rw[h.1];exact ad⟩) fun r h=>by rw[h.1];exact hk
attribute [go_sem] frzS frzA frzC frzK zs7 zj7
attribute [go_sem] Em List.zip_nil_left List.zip_nil_right
theorem iV {nt:Nat} {args:List V} {R:V->St->Prop} (n0:Nat) (hf:P.funcs[f]? =some fn) (aa:fn.ntmps=nt) (ab:fn.results=rs.toArray)
  (h: ∀c:Ctx,c.σ0.length=n0->c.β0.length=c.σ0.length->wVW P c nt code (retQ P rs n0 R) fx fx (envA 0 args) σ) (hb:fn.body=some code:=by rfl) (h0:σ.length=n0:=by rfl) (ad:args.length<=nt:=by exact Ci rfl):VCalls P f args σ R:=VCalls.introV n0 hf aa ab hb h0 ad h
theorem iW {nt:Nat} {args:List V} {R:V->St->Prop} (n0:Nat) (hf:P.funcs[f]? =some fn) (aa:fn.ntmps=nt) (ab:fn.results=rs.toArray)
  (h: ∀c:Ctx,c.σ0.length=n0->c.β0.length=c.σ0.length->zz3 P c nt code (retQ P rs n0 R) (envA 0 args) σ) (hb:fn.body=some code:=by rfl) (h0:σ.length=n0:=by rfl) (ad:args.length<=nt:=by exact Ci rfl):VCalls P f args σ R:=VCalls.intro n0 hf aa ab hb h0 ad h
theorem aN (k:Nat) {vs:List V} {s:St} (hok:s.all (ltOb k)=true) (hs:σ.take k=s:=by simp[go_sem]) (hk:s.length=k:=by rfl) (hn:n0<=k:=by omega) (h:vs=keep.map e:=by simp[go_sem]) (hv:vs.all (ltS k)=true:=by rfl):At n0 keep vs s e σ:=at_n k hs hk hok hn (zF h hv)
theorem aM (k:Nat) {vs:List V} {s:St} (hok:s.all (ltOb k)=true) (h:All2 (argS (ren (List.range k) σ.length)) vs (keep.map e)) (hs:σ.take k=s:=by simp[go_sem]) (hk:s.length=k:=by rfl) (hn:n0<=k:=by omega):At n0 keep vs s e σ:=at_n k hs hk hok hn h
theorem aO {vs:List V} (h:vs=keep.map e:=by simp[go_sem]) (hv:vs.all noS=true:=by rfl):At 0 keep vs [] e σ:=at_0 rfl (zN h hv)
theorem pC {args:List V} {v:V} (hc:Pure P f args' v) (hk:KV v σ) (aa:All2 (argS (ren [] σ.length)) args' (args++caps):=by first|exact yC rfl|exact⟨zK,yC rfl⟩|exact⟨zK,zK,yC rfl⟩|exact⟨zC rfl,zK,yC rfl⟩|exact⟨zK,zK,zK,yC rfl⟩|exact⟨zK,zC rfl,zK,yC rfl⟩|exact⟨zC rfl,zK,zK,yC rfl⟩|exact⟨zC rfl,zC rfl,zK,yC rfl⟩|exact⟨zK,zK,zK,zK,yC rfl⟩|exact⟨zK,zK,zC rfl,zK,yC rfl⟩|exact⟨zK,zC rfl,zK,zK,yC rfl⟩|exact⟨zK,zC rfl,zC rfl,zK,yC rfl⟩|exact⟨zC rfl,zK,zK,zK,yC rfl⟩|exact⟨zC rfl,zK,zC rfl,zK,yC rfl⟩|exact⟨zC rfl,zC rfl,zK,zK,yC rfl⟩|exact⟨zC rfl,zC rfl,zC rfl,zK,yC rfl⟩)
  (hb:wB P f=true:=by kernel_rfl) (hn:noS v=true:=by rfl):wVC P c (.fn f caps) args σ KV fx:=zJ hc hb aa hn hk
theorem pD {n0:Kp} {args:List V} {v:V} (hc:Pure P f args' v) (hk:KV v σ) (aa: ∀N,All2 (argS (ren [] N)) args' (args++caps):=by first|exact fun _=>yC rfl|exact fun _=>⟨zK,yC rfl⟩|exact fun _=>⟨zK,zK,yC rfl⟩|exact fun _=>⟨zC rfl,zK,yC rfl⟩|exact fun _=>⟨zK,zK,zK,yC rfl⟩|exact fun _=>⟨zK,zC rfl,zK,yC rfl⟩|exact fun _=>⟨zC rfl,zK,zK,yC rfl⟩|exact fun _=>⟨zC rfl,zC rfl,zK,yC rfl⟩|exact fun _=>⟨zK,zK,zK,zK,yC rfl⟩|exact fun _=>⟨zK,zK,zC rfl,zK,yC rfl⟩|exact fun _=>⟨zK,zC rfl,zK,zK,yC rfl⟩|exact fun _=>⟨zK,zC rfl,zC rfl,zK,yC rfl⟩|exact fun _=>⟨zC rfl,zK,zK,zK,yC rfl⟩|exact fun _=>⟨zC rfl,zK,zC rfl,zK,yC rfl⟩|exact fun _=>⟨zC rfl,zC rfl,zK,zK,yC rfl⟩|exact fun _=>⟨zC rfl,zC rfl,zC rfl,zK,yC rfl⟩)
  (hb:wB P f=true:=by kernel_rfl) (hn:noS v=true:=by rfl):wVD P c n0 0 (.fn f caps) args σ KV fx:=zh8 hc hb aa hn hk
theorem wR {R:V->St->Prop} {v r:V} (hr:argS (ren [] σ.length) r v:=by exact zC rfl) (hR:R r []:=by exact⟨rfl,rfl⟩):wret (some v) 0 R σ:=wG hr hR
end
end Go.Vx
