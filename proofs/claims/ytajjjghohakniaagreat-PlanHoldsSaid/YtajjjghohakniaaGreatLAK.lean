/-
  A function's entry and return, and loops, at the level of trees.
  No condition: a library text; nothing of the program is named.
-/
import Derived.Test.YtajjjghohakniaaGreatLAJ
namespace Go.Vx
open Go
def evOp (P:Program) (e:Env) (σ:St):Op→R
 | .move x=> .ok (zF e x)
 | .assign x=> .ok (zF e x)
 | .pick x y z=>zA5 (zF e x) (zF e y) (zF e z)
 | .alloc t=>zi7 P t σ
 | .box _ x=>zF8 σ (zF e x)
 | .build t ps=>zt1 (zX P t) (plcT P t) (ps.toList.map fun p=>(p.1,zF e p.2))
 | .buildSlice t n ps=>wK ((elT P t).map (·.1)) n (ps.toList.map fun p=>(p.1,zF e p.2))
 | .load t x=>zf7 P t σ (zF e x)
 | .store t x y=>zp5 P t σ (zF e x) (zF e y)
 | .nilCheck x=>zQ2 (zF e x)
 | .binOp op t x y _=>if zf1 y=true then zp4 op (eqK P t) (zF e x)else if zd6 y=true then zn6 op (zj1 P t) (zF e x)else zk2 op (eqK P t) (eqS P t) (zF e x) (zF e y)
 | .unOp op _ x=>evUn op (zF e x)
 | .convert t t' x=>zx2 (kdT P t) (kdT P t') (zF e x)
 | .slice t x lo hi none=>zk3 (arrT P t) (lenT P t) ((elT P t).map (·.1)) (zF e x) (lo.map (zF e)) (hi.map (zF e))
 | .slice t x (some lo) (some hi) (some mx)=>zk4 ((elT P t).map (·.1)) (zF e x) (zF e lo) (zF e hi) (zF e mx)
 | .fieldAddr t x f=>zc9 P t (zF e x) f
 | .field t x f=>zt3 (fldT P t f) (zF e x)
 | .indexAddr t x i=>zg9 (slcT P t) (arrT P t) (zF e x) (zF e i)
 | .index t x i=>zJ4 (zF e x) (zF e i) (strT P t) (arrT P t)
 | .extract x i=>zj5 (zF e x) i
 | .makeFunc fn first caps=>zA3 fn first.size (caps.toList.map (zF e))
 | .makeSlice t l m=>zx4 (elT P t) (zelT P t) σ (zF e l) (zF e m)
 | .call ⟨.builtin .len,⟨[x]⟩,⟨[t]⟩⟩=>zQ1 (lenT P t) (zF e x)
 | .call ⟨.builtin .append,⟨[x,y]⟩,⟨[t,t']⟩⟩=>zf6 (elT P t) (lenT P t') σ (zF e x) (zF e y)
 | .call ⟨.builtin .clear,⟨[x]⟩,⟨[t]⟩⟩=>zp2 ((elT P t).map (·.1)) (zelT P t) σ (zF e x)
 | .call ⟨.builtin .min,⟨xs⟩,_⟩=>zv2 false (xs.map (zF e))
 | .call ⟨.builtin .max,⟨xs⟩,_⟩=>zv2 true (xs.map (zF e))
 | .call ⟨.builtin .delete,⟨[x,k]⟩,⟨[t,_]⟩⟩=>zn4 (mapT P t) σ (zF e x) (zF e k)
 | .makeMap t r=>zj6 σ (zj1 P t) (r.map (zF e))
 | .lookup t x k ok=>zn5 (mapT P t) σ (zF e x) (zF e k) ok
 | .mapUpdate t x k v=>xI (mapT P t) σ (zF e x) (zF e k) (zF e v)
 | .insert t x k v=>xI (mapT P t) σ (zF e x) (zF e k) (zF e v)
 | .range t x=>zt4 (zj1 P t) σ (zF e x)
 | .next x false=>zo4 false σ (zF e x)
 |_=> .fail
def wJ (P:Program) (e:Env) (σ:St):Op→R
 | .buildSlice t n ps=>xW ((elT P t).map (·.1)) n σ (ps.toList.map fun p=>(p.1,zF e p.2))
 | .makeSlice t l m=>zp3 (elT P t) (zelT P t) σ (zF e l) (zF e m)
 | .convert t t' x=>zt2 (kdT P t) (kdT P t') σ (zF e x)
 | .slice t x (some lo) none none=>zn7 (lenT P t) ((elT P t).map (·.1)) σ (zF e x) (zF e lo)
 | .call ⟨.builtin .append,⟨[x,y]⟩,⟨[t,t']⟩⟩=>zc3 (elT P t) (lenT P t') σ (zF e x) (zF e y)
 | .next x false=>zo4 true σ (zF e x)
 |op=>evOp P e σ op
def zb4 (e:Env) (d:Option Tmp):Bool:=match d with|some t=>(match e (100000+t)with| .tup []=>true|_=>false)|none=>false
def xG (P:Program) (d:Option Tmp) (e:Env) (σ:St) (op:Op):R:=if zb4 e d=true then wJ P e σ op else evOp P e σ op
section
variable {P:Program} {c:Ctx} {nt:Nat} {e:Env} {σ:St} {a:Act} {w:World} {L:Nat→Nat} {β:List Value}
theorem yE6 (o:Oper) (h:Sim c nt e σ a w L β):ROk (evOp P e σ o.op) σ (Yield P c o a w L σ β):=by
 obtain⟨dst,op,ty,pos,aft,g⟩:=o
 show ROk (evOp P e σ op) σ _
 unfold evOp
 split
 ·exact xk1 _ h
 ·exact yO7 _ h
 ·exact xk2 _ _ _ h
 ·exact yZ1 _ h
 ·exact xs6 _ _ h
 ·exact yZ2 _ _ h
 ·exact ya0 _ _ _ h
 ·exact xj9 _ _ h
 ·exact xa1 _ _ _ h
 ·exact yr6 _ h
 ·split
  ·rename_i hn;exact yZ8 _ _ _ _ _ hn h
  ·split
   ·rename_i hn;exact yP2 _ _ _ _ _ hn h
   ·exact xs5 _ _ _ _ _ h
 ·exact xv8 _ _ _ h
 ·exact xj7 _ _ _ h
 ·exact xa0 _ _ _ _ h
 ·exact yP3 _ _ _ _ _ h
 ·exact yi9 _ _ _ h
 ·exact yZ5 _ _ _ h
 ·exact yz3 _ _ _ h
 ·exact xs7 _ _ _ h
 ·exact yz2 _ _ h
 ·exact xj8 _ _ _ h
 ·exact xk0 _ _ _ h
 ·exact xs8 _ _ h
 ·exact yO6 _ _ _ _ h
 ·exact yZ3 _ _ h
 ·exact yZ7 _ _ false h
 ·exact yZ7 _ _ true h
 ·exact yO8 _ _ _ _ h
 ·exact yz4 _ _ h
 ·exact yP1 _ _ _ _ h
 ·exact yj0 _ _ _ _ h
 ·exact yO9 _ _ _ _ h
 ·exact yZ9 _ _ h
 ·exact yH5 _ _ h
 ·trivial
theorem yU9 (o:Oper) (h:Sim c nt e σ a w L β):ROk (xG P o.dst e σ o.op) σ (Yield P c o a w L σ β):=by
 unfold xG
 split
 ·obtain⟨dst,op,ty,pos,aft,g⟩:=o
  show ROk (wJ P e σ op) σ _
  unfold wJ
  split
  ·exact zW8 _ _ _ h
  ·exact yZ6 _ _ _ h
  ·exact yZ4 _ _ _ h
  ·exact yP4 _ _ _ h
  ·exact yz1 _ _ _ _ h
  ·exact yH5 _ _ h
  ·exact yE6 ⟨dst,op,ty,pos,aft,g⟩ h
 ·exact yE6 o h
def vput (nt:Nat) (d:Option Tmp) (v:V) (K:Env→St→Prop) (e:Env) (σ:St):Prop:=
 match d with
 |some t=>t<nt∧K (upd e t v) σ
 |none=>K e σ
def yJ8 (p q:Prop):Prop:=p∧q
def vfin (nt:Nat) (d:Option Tmp) (r:R) (K:Env→St→Prop) (e:Env) (σ:St):Prop:=
 match r with
 | .fail=>False
 | .ok v=>vput nt d v K e σ
 | .need p v=>yJ8 p (vput nt d v K e σ)
 | .st v σ'=>vput nt d v K e σ'
 | .needst p v σ'=>yJ8 p (vput nt d v K e σ')
 | .all f=> ∀b,vput nt d (f b) K e σ
 | .any l=> ∀p∈l,vput nt d p.1 K e p.2
def vop (P:Program) (c:Ctx) (nt:Nat) (d:Option Tmp) (op:Op) (K:Env→St→Prop) (e:Env) (σ:St):Prop:=
 match op with
 | .call ⟨.value f,args,_⟩=>VC P c (zF e f) (args.toList.map (zF e)) σ (fun v σ'=>vput nt d v K e σ')
 |op=>vfin nt d (xG P d e σ op) K e σ
def vgrd (x:V) (want:Bool) (A B:Prop):Prop:=
 match x with
 | .bool b=>(b=want→A)∧(b≠want→B)
 | .tup []=>B
 |_=>False
def gdst (ops:List Oper) (j:Nat):Option Tmp:=(ops[j]?).bind (·.dst)
def vgd (g:Option (Nat×Bool)) (ops:List Oper) (e:Env) (A B:Prop):Prop:=
 match g with
 |none=>A
 |some (j,want)=>(match gdst ops j with|some t=>vgrd (e t) want A B|none=>False)
def vrun (P:Program) (c:Ctx) (nt:Nat) (ops:List Oper):List Oper→(Env→St→Prop)→Env→St→Prop
 | [],K,e,σ=>K e σ
 |o::rest,K,e,σ=>vgd o.guard ops e (vop P c nt o.dst o.op (vrun P c nt ops rest K) e σ) (vput nt o.dst (.tup []) (vrun P c nt ops rest K) e σ)
theorem Sim.put (h:Sim c nt e σ a w L β) {w':World} {L':Nat→Nat} {σ':St} {β':List Value} {v:V} {x:Value} (hm:Mem c w' L' σ' β') (hle:Le w L w' L') (hext:Ext σ β σ' β') (r:RdS w' L' σ' β' v x) (d:Option Tmp) (hd: ∀t,d=some t→t<nt):
  Sim c nt (match d with|some t=>upd e t v|none=>e) σ' (a.put d x) w' L' β':=by
 cases d with
 |none=>exact⟨hm,h.size,h.defs,fun t=>(h.env t).mono hle hext⟩
 |some d=>
  refine⟨hm,by simp[Act.put,h.size],by simp[Act.put,h.defs],fun t=> ?_⟩
  have hd':=hd d rfl
  simp only[upd,Act.put]
  by_cases ht:t=d
  ·subst ht
   rw[if_pos rfl]
   have:(a.tmps.setIfInBounds t x).getD t undef=x:=by
    simp[Array.getD,h.size,hd']
   rw[this];exact r
  ·rw[if_neg ht]
   have:(a.tmps.setIfInBounds d x).getD t undef=a.tmps.getD t undef:=by
    have hdt: ¬d=t:=fun q=>ht q.symm
    rw[Array.getD_eq_getD_getElem?,Array.getD_eq_getD_getElem?,Array.getElem?_setIfInBounds_ne hdt]
   rw[this];exact(h.env t).mono hle hext
def Lift (c:Ctx) (nt:Nat) (Q:Exit→Env→St→Prop):Exit→Act→World→Prop
 | .panic _,_,_| .outgrown,_,_| .goto _,_,_=>False
 |x,a,w=> ∃e σ L β,Sim c nt e σ a w L β∧Q x e σ
def VW (P:Program) (c:Ctx) (nt:Nat) (code:Code) (Q:Exit→Env→St→Prop) (e:Env) (σ:St):Prop:=
 ∀a w L β,Sim c nt e σ a w L β→code.wp P (Lift c nt Q) a w
theorem zC5 (h:Sim c nt e σ a w L β) {w':World} {L':Nat→Nat} {σ':St} {β':List Value} {v:V} {x:Value} (hm:Mem c w' L' σ' β') (hle:Le w L w' L') (hext:Ext σ β σ' β') (r:RdS w' L' σ' β' v x) {d:Option Tmp} {K:Env→St→Prop} (hK:vput nt d v K e σ'):
  ∃e',Sim c nt e' σ' (a.put d x) w' L' β'∧K e' σ':=by
 cases d with
 |none=>exact⟨e,h.put hm hle hext r none (fun t q=>by cases q),hK⟩
 |some t=>exact⟨upd e t v,h.put hm hle hext r (some t) (fun t' q=>by cases q;exact hK.1),hK.2⟩
theorem yC2 (o:Oper) {K:Env→St→Prop} {next:Act→World→Prop} {Q:Exit→Act→World→Prop} (h:Sim c nt e σ a w L β) (hK:vop P c nt o.dst o.op K e σ)
  (hn: ∀e' σ' a' w' L' β',Sim c nt e' σ' a' w' L' β'→K e' σ'→next a' w'):o.wp P a w next Q:=by
 have fin: ∀{r:R},ROk r σ (Yield P c o a w L σ β)→vfin nt o.dst r K e σ→o.wp P a w next Q:=by
  intro r hr hv
  have done: ∀{v σ'},Yield P c o a w L σ β v σ'→vput nt o.dst v K e σ'→o.wp P a w next Q:=by
   rintro v σ' ⟨x,w',L',β',hrun,hm,hle,hext,hrd⟩ hp
   obtain⟨e',hs,hk⟩:=zC5 h hm hle hext hrd hp
   unfold Oper.wp
   rcases hrun with hrun|⟨hrun,rfl⟩
   ·rw[hrun];exact hn _ _ _ _ _ _ hs hk
   ·rw[hrun];exact hn _ _ _ _ _ _ hs hk
  cases r with
  |fail=>exact hv.elim
  |ok v=>exact done hr hv
  |need p v=>exact done (hr hv.1) hv.2
  |st v σ'=>exact done hr hv
  |needst p v σ'=>exact done (hr hv.1) hv.2
  |all f=>obtain⟨b,hr⟩:=hr;exact done hr (hv b)
  |any l=>obtain⟨p,hp,hr⟩:=hr;exact done hr (hv p hp)
 unfold vop at hK
 split at hK
 ·rename_i f args ts hop
  obtain⟨fid,caps,hf,hK⟩:=hK
  have hfv:=h.eval f
  rw[hf]at hfv
  obtain⟨xs,hx,hcaps⟩:=hfv
  have hargs:All2 (RdS w L σ β) (args.toList.map (zF e)++caps) (args.toList.map a.eval++xs):=by
   refine All2.append ?_ (hcaps.imp fun p q r=> ?_)
   ·generalize args.toList=l
    induction l with
    |nil=>trivial
    |cons p l ih=>exact⟨h.eval p,ih⟩
   ·exact RdS.of_cell (by cases p<;>first|exact r|exact r.elim)
  rcases hK with ⟨⟨fn,hfn,hname,hbody⟩,hcall⟩|hcall
  ·have hrun:(execOp a.eval o).run P w= .ok (.enter fid (args.toList.map a.eval++xs).toArray) w:=by
    obtain⟨dst,op,ty,pos,aft,g⟩:=o
    simp only at hop
    subst hop
    have hbn: ¬fn.body=none:=by intro q;simp[q]at hbody
    have hne: ¬fn.name= "runtime.NumGoroutine" :=by simpa using hname
    have hsz:(Array.map a.eval args++xs.toArray)=(args.toList.map a.eval++xs).toArray:=by
     apply Array.ext';simp
    simp[execOp,resolve,hx,Deferred.ofValue,invoke,callFunc,hfn,hne,hbn,hsz]
   unfold Oper.wp
   rw[hrun]
   show Calls P fid _ w _
   refine(hcall w L β _ h.mem hargs).mono ?_
   rintro en w' ⟨v,r,L',σ',β',rfl,hp,hm,hle,hext,hrd⟩
   obtain⟨e',hs,hk⟩:=zC5 h hm hle hext hrd hp
   exact hn _ _ _ _ _ _ hs hk
  ·obtain⟨v,r,hrv,hp,hrd⟩:=hcall w L β _ h.mem hargs
   have hrun:(execOp a.eval o).run P w= .ok (.value v) w:=by
    obtain⟨dst,op,ty,pos,aft,g⟩:=o
    simp only at hop
    subst hop
    have hsz:(Array.map a.eval args++xs.toArray)=(args.toList.map a.eval++xs).toArray:=by
     apply Array.ext';simp
    simp[execOp,resolve,hx,Deferred.ofValue,invoke,hsz,hrv]
   obtain⟨e',hs,hk⟩:=zC5 h h.mem (Le.refl _ _) (Ext.refl _ _) hrd hp
   unfold Oper.wp
   rw[hrun]
   exact hn _ _ _ _ _ _ hs hk
 ·exact fin (yU9 o h) hK
theorem zR5 {ops:List Oper} {j:Nat} {t:Tmp} (ht:gdst ops j=some t) (hv:RdS w L σ β (.tup []) (a.tmps.getD t undef)):yielded ops.toArray a.tmps j=none:=by
 obtain⟨xs,hx,hall⟩:=hv
 have hxs:xs= []:=by
  cases xs with
  |nil=>rfl
  |cons x xs=>exact hall.elim
 subst hxs
 unfold yielded
 unfold gdst at ht
 have ht':(ops.toArray[j]?).bind (·.dst)=some t:=by simpa using ht
 rw[ht']
 simp only[Option.bind_some]
 by_cases htl:t<a.tmps.size
 ·rw[Array.getElem?_eq_getElem htl]
  simp[Array.getD,htl]at hx
  rw[hx]
 ·rw[Array.getElem?_eq_none (Nat.le_of_not_lt htl)]
theorem yJ9 {ops:List Oper} {Q:Exit→Act→World→Prop}: ∀(l:List Oper) (K:Env→St→Prop) (e:Env) (σ:St) (a:Act) (w:World) (L:Nat→Nat) (β:List Value),Sim c nt e σ a w L β→vrun P c nt ops l K e σ→
  (∀e' σ' a' w' L' β',Sim c nt e' σ' a' w' L' β'→K e' σ'→Q .normal a' w')→wpList P ops.toArray Q l a w
 | [],K,e,σ,a,w,L,β,h,hK,hn=>hn _ _ _ _ _ _ h hK
 |o::rest,K,e,σ,a,w,L,β,h,hK,hn=>by
  have ih:=yJ9 (ops:=ops) (Q:=Q) rest K
  have yes:vop P c nt o.dst o.op (vrun P c nt ops rest K) e σ→o.wp P a w (wpList P ops.toArray Q rest) Q∨(o.asks P a w∧LetsOut Q):=fun hv=>
   .inl (yC2 o h hv fun e' σ' a' w' L' β' hs hk=>ih e' σ' a' w' L' β' hs hk hn)
  have no:vput nt o.dst (.tup []) (vrun P c nt ops rest K) e σ→wpList P ops.toArray Q rest (a.put o.dst undef) w:=fun hv=>by
   obtain⟨e',hs,hk⟩:=zC5 h h.mem (Le.refl _ _) (Ext.refl _ _) (show RdS w L σ β (.tup []) undef from⟨[],rfl,trivial⟩) hv
   exact ih e' σ _ _ _ _ hs hk hn
  unfold vrun at hK
  unfold wpList
  unfold vgd at hK
  split at hK
  ·rename_i hg
   rw[if_pos (by simp[Region.wanted,hg])]
   exact yes hK
  ·rename_i j want hg
   split at hK
   ·rename_i t ht
    have hv:=h.env t
    unfold vgrd at hK
    split at hK
    ·rename_i b hb
     rw[hb]at hv
     have hv:=zb2 hv
     have hy:yielded ops.toArray a.tmps j=some b:=by
      unfold yielded
      unfold gdst at ht
      have ht':(ops.toArray[j]?).bind (·.dst)=some t:=by simpa using ht
      rw[ht']
      simp only[Option.bind_some]
      have htl:t<a.tmps.size:=by
       rcases Nat.lt_or_ge t a.tmps.size with q|q
       ·exact q
       ·simp[Array.getD,Nat.not_lt.2 q,undef]at hv
      rw[Array.getElem?_eq_getElem htl]
      simp[Array.getD,htl]at hv
      rw[hv]
     by_cases hbw:b=want
     ·rw[if_pos (by simp[Region.wanted,hg,hy,hbw])]
      exact yes (hK.1 hbw)
     ·rw[if_neg (by simp[Region.wanted,hg,hy,hbw])]
      exact no (hK.2 hbw)
    ·rename_i hb
     rw[hb]at hv
     rw[if_neg (by simp[Region.wanted,hg,zR5 ht hv])]
     exact no hK
    ·exact hK.elim
   ·exact hK.elim
def yu1 (x:V) (A B:Prop):Prop:=
 match x with
 | .bool b=>(b=true→A)∧(b=false→B)
 |_=>False
def yJ0 (K:Env→St→Prop) (Q:Exit→Env→St→Prop):Exit→Env→St→Prop
 | .normal,e,σ=>K e σ
 |x,e,σ=>Q x e σ
def blkV (id:Nat) (Q:Exit→Env→St→Prop):Exit→Env→St→Prop
 | .exit id',e,σ=>if id'=id then Q .normal e σ else Q (.exit id') e σ
 |x,e,σ=>Q x e σ
def zu3 (P:Program) (c:Ctx) (nt:Nat):Code→(Exit→Env→St→Prop)→Env→St→Prop
 | .skip,Q,e,σ=>Q .normal e σ
 | .seq x y,Q,e,σ=>zu3 P c nt x (yJ0 (zu3 P c nt y Q) Q) e σ
 | .cond x t f,Q,e,σ=>yu1 (zF e x) (zu3 P c nt t Q e σ) (zu3 P c nt f Q e σ)
 | .block id b,Q,e,σ=>zu3 P c nt b (blkV id Q) e σ
 | .exit id,Q,e,σ=>Q (.exit id) e σ
 | .ret,Q,e,σ=>Q .ret e σ
 | .label _,Q,e,σ=>Q .normal e σ
 | .region id ops draw,Q,e,σ=>if draw then VW P c nt (.region id ops true) Q e σ else vrun P c nt ops.toList ops.toList (Q .normal) e σ
 | .loop b,Q,e,σ=>VW P c nt (.loop b) Q e σ
 |_,_,_,_=>False
theorem Lift.mono {Q Q':Exit→Env→St→Prop} {x:Exit} {a:Act} {w:World} (h: ∀x e σ,Q x e σ→Q' x e σ) (q:Lift c nt Q x a w):Lift c nt Q' x a w:=by
 cases x with
 |panic _=>exact q
 |outgrown=>exact q
 |goto _=>exact q
 |_=>obtain⟨e,σ,L,β,hs,hq⟩:=q;exact⟨e,σ,L,β,hs,h _ _ _ hq⟩
theorem zc8: ∀(code:Code) (Q:Exit→Env→St→Prop) (e:Env) (σ:St),zu3 P c nt code Q e σ→VW P c nt code Q e σ
 | .skip,Q,e,σ,h=>fun a w L β hs=>wp_skip ⟨e,σ,L,β,hs,h⟩
 | .seq x y,Q,e,σ,h=>fun a w L β hs=>by
  refine wp_seq (wp_mono (zc8 x _ e σ h a w L β hs) fun ex a' w' q=> ?_)
  cases ex with
  |normal=>obtain⟨e',σ',L',β',hs',hq⟩:=q;exact zc8 y Q e' σ' hq a' w' L' β' hs'
  |exit id=>exact q
  |goto l=>exact q
  |ret=>exact q
  |panic ch=>exact q
  |outgrown=>exact q
 | .cond x t f,Q,e,σ,h=>fun a w L β hs=>by
  unfold zu3 yu1 at h
  split at h
  ·rename_i b hb
   have hv:=hs.eval x
   rw[hb]at hv
   exact wp_cond_split (zb2 hv) (fun hbt=>zc8 t Q e σ (h.1 hbt) a w L β hs) (fun hbf=>zc8 f Q e σ (h.2 hbf) a w L β hs)
  ·exact h.elim
 | .block id b,Q,e,σ,h=>fun a w L β hs=>by
  refine wp_block (wp_mono (zc8 b _ e σ h a w L β hs) fun ex a' w' q=> ?_)
  cases ex with
  |exit id'=>
   obtain⟨e',σ',L',β',hs',hq⟩:=q
   change (if id'=id then Q .normal e' σ' else Q (.exit id') e' σ')at hq
   change (if id'=id then Lift c nt Q .normal a' w' else Lift c nt Q (.exit id') a' w')
   split
   ·rename_i hid
    rw[if_pos hid]at hq
    exact⟨e',σ',L',β',hs',hq⟩
   ·rename_i hid
    rw[if_neg hid]at hq
    exact⟨e',σ',L',β',hs',hq⟩
  |normal=>exact q
  |goto l=>exact q
  |ret=>exact q
  |panic ch=>exact q
  |outgrown=>exact q
 | .exit id,Q,e,σ,h=>fun a w L β hs=>wp_exit ⟨e,σ,L,β,hs,h⟩
 | .ret,Q,e,σ,h=>fun a w L β hs=>wp_ret ⟨e,σ,L,β,hs,h⟩
 | .label _,Q,e,σ,h=>fun a w L β hs=>wp_label ⟨e,σ,L,β,hs,h⟩
 | .region id ops draw,Q,e,σ,h=>fun a w L β hs=>by
  unfold zu3 at h
  cases draw with
  |true=>exact h a w L β hs
  |false=>
   refine wp_region_list (ops:=ops) ?_
   have:=yJ9 (P:=P) (ops:=ops.toList) (Q:=Lift c nt Q) ops.toList (Q .normal) e σ a w L β hs (by simpa using h) fun e' σ' a' w' L' β' hs' hk=>⟨e',σ',L',β',hs',hk⟩
   simpa using this
 | .loop b,Q,e,σ,h=>h
 | .rangeFunc _ _ _ _,_,_,_,h=>h.elim
 | .scope _,_,_,_,h=>h.elim
 | .goto _,_,_,_,h=>h.elim
 | .refuse _,_,_,_,h=>h.elim
end
end Go.Vx
namespace Go.Vx
open Go
section
variable {P:Program} {c:Ctx} {nt:Nat} {e:Env} {σ:St} {a:Act} {w:World} {L:Nat→Nat} {β:List Value}
def envA:Nat→List V→Env
 |_,[]=>env0
 |i,v::vs=>upd (envA (i+1) vs) i v
theorem zU7: ∀(vs:List V) (i t:Nat),envA i vs (i+t)=vs.getD t .u
 | [],_,_=>by simp[envA,env0]
 |v::vs,i,0=>by simp[envA,upd]
 |v::vs,i,t+1=>by
  simp only[envA,upd]
  rw[if_neg (by omega)]
  have:=zU7 vs (i+1) t
  rw[show i+(t+1)=i+1+t by omega,this]
  simp
def ye5 (P:Program) (e:Env) (σ:St):ResultVar→Option V
 | .tmp t=>some (e t)
 | .cell t T=>(match zf7 P T σ (e t)with| .ok v=>some v|_=>none)
def zI2 (P:Program) (e:Env) (σ:St):List ResultVar→Option (List V)
 | []=>some []
 |r::rs=>(match ye5 P e σ r,zI2 P e σ rs with|some v,some vs=>if wN v=true then some (v::vs)else none|_,_=>none)
def retV (P:Program) (rs:List ResultVar) (e:Env) (σ:St):Option V:=
 match rs with
 | [r]=>ye5 P e σ r
 |rs=>(zI2 P e σ rs).map .tup
def resS (a:Act):ResultVar→Sem Value
 | .tmp t=>pure (a.tmps.getD t undef)
 | .cell t T=>do loadVar T (←asAddr (a.tmps.getD t undef))
theorem yA5 (fn:Func) (a:Act):results fn a.tmps=(do let vs←fn.results.mapM (resS a);pure (if h:vs.size=1 then vs[0]else .tuple vs)):=by
 unfold results
 rfl
theorem xb6 (h:Sim c nt e σ a w L β) {r:ResultVar} {v:V} (hv:ye5 P e σ r=some v):
  ∃x,(resS a r).run P w= .ok x w∧RdS w L σ β v x:=by
 cases r with
 |tmp t=>
  simp only[ye5,Option.some.injEq]at hv
  subst hv
  exact⟨_,rfl,h.env t⟩
 |cell t T=>
  simp only[ye5]at hv
  split at hv
  ·rename_i v' hl
   simp only[Option.some.injEq]at hv
   subst hv
   obtain⟨bl,off,z,hy,hz,r⟩:=yq0 (P:=P) T h.mem (h.env t) hl
   exact⟨z,by simp only[resS,Sem.run_bind,hy,asAddr,Sem.run_pure,Result.andThen_ok,hz],r⟩
  ·cases hv
theorem ye4 (h:Sim c nt e σ a w L β): ∀(rs:List ResultVar) (vs:List V),zI2 P e σ rs=some vs→
  ∃xs:List Value,(rs.mapM (resS a)).run P w= .ok xs w∧All2 (RdA w L σ β) vs xs∧xs.length=rs.length
 | [],vs,hv=>by
  simp only[zI2,Option.some.injEq]at hv
  subst hv
  exact⟨[],rfl,trivial,rfl⟩
 |r::rs,vs,hv=>by
  simp only[zI2]at hv
  split at hv
  ·rename_i v vs' h1 h2
   split at hv
   ·rename_i hh
    simp only[Option.some.injEq]at hv
    subst hv
    obtain⟨x,hx,hr⟩:=xb6 (P:=P) h h1
    obtain⟨xs,hxs,hrs,hl⟩:=ye4 h rs vs' h2
    refine⟨x::xs, ?_,⟨yI0 hr hh,hrs⟩,by simp[hl]⟩
    rw[List.mapM_cons]
    simp only[Sem.run_bind,hx,Result.andThen_ok,hxs,Sem.run_pure]
   ·cases hv
  ·cases hv
theorem xl0 {fn:Func} (h:Sim c nt e σ a w L β) {v:V} (hv:retV P fn.results.toList e σ=some v): ∃x,(results fn a.tmps).run P w= .ok x w∧RdS w L σ β v x:=by
 have hmap: ∀xs:List Value,(fn.results.toList.mapM (resS a)).run P w= .ok xs w→
   (results fn a.tmps).run P w= .ok (if hs:xs.toArray.size=1 then xs.toArray[0]else .tuple xs.toArray) w:=by
  intro xs hx
  rw[yA5,Array.mapM_eq_mapM_toList]
  simp only[Sem.run_bind,Sem.run_map,hx,Result.andThen_ok,Sem.run_pure]
 unfold retV at hv
 split at hv
 ·rename_i r hr
  obtain⟨x,hx,hrd⟩:=xb6 (P:=P) h hv
  refine⟨x, ?_,hrd⟩
  have:=hmap [x] (by rw[hr,List.mapM_cons];simp only[Sem.run_bind,hx,Result.andThen_ok,List.mapM_nil,Sem.run_pure])
  simpa using this
 ·rename_i rs hne
  cases ha:zI2 P e σ fn.results.toList with
  |none=>rw[ha]at hv;cases hv
  |some vs=>
   rw[ha]at hv
   simp only[Option.map_some,Option.some.injEq]at hv
   subst hv
   obtain⟨xs,hxs,hall,hl⟩:=ye4 (P:=P) h _ _ ha
   refine⟨.tuple xs.toArray, ?_,xs,rfl,hall⟩
   have hn: ¬xs.toArray.size=1:=by
    intro q
    simp only[List.size_toArray]at q
    rw[hl]at q
    obtain⟨r,hr⟩:=List.length_eq_one_iff.1 q
    exact hne r hr
   have:=hmap xs hxs
   rw[dif_neg hn]at this
   exact this
def VRet (n0:Nat) (R:V→St→Prop) (v:V) (σ:St):Prop:=
 ∃v1 σ1 pick σ' r,Frz [v] σ [v1] σ1∧Picks n0 pick σ1 σ'∧argS (ren pick σ1.length) r v1∧R r σ'
def retQ (P:Program) (rs:List ResultVar) (n0:Nat) (R:V→St→Prop):Exit→Env→St→Prop
 | .normal,e,σ| .ret,e,σ=> ∃v,retV P rs e σ=some v∧VRet n0 R v σ
 |_,_,_=>False
theorem VCalls.introW {f:FuncId} {fn:Func} {code:Code} {nt:Nat} {rs:List ResultVar} {args:List V} {σ:St} {R:V→St→Prop} (n0:Nat) (hf:P.funcs[f]? =some fn) (hnt:fn.ntmps=nt) (hrs:fn.results=rs.toArray) (hb:fn.body=some code) (h0:σ.length=n0) (hal:args.length≤nt)
  (h: ∀c:Ctx,c.σ0.length=n0→c.β0.length=c.σ0.length→VW P c nt code (retQ P rs n0 R) (envA 0 args) σ):VCalls P f args σ R:=by
 subst hnt
 subst h0
 have hrs:fn.results.toList=rs:=by rw[hrs]
 subst hrs
 intro w L β vals hm ha
 have hlen:=ha.length
 refine calls_of_wp hf hb ?_
 have hsim:Sim (zn3 w L σ β) fn.ntmps (envA 0 args) σ {tmps:=vals.toArray++Array.replicate (fn.ntmps - vals.toArray.size) undef,defers:= []} w L β:=by
  refine⟨hm,by simp;omega,rfl,fun t=> ?_⟩
  have e1:=zU7 args 0 t
  rw[Nat.zero_add]at e1
  rw[e1]
  by_cases ht:t<args.length
  ·obtain⟨x,hx,r⟩:=ha.get t _ (List.getElem?_eq_getElem ht)
   have:(vals.toArray++Array.replicate (fn.ntmps - vals.toArray.size) undef).getD t undef=x:=by
    rw[Array.getD_eq_getD_getElem?,Array.getElem?_append_left (by simp;omega)]
    simp[hx]
   rw[this,List.getD_eq_getElem?_getD,List.getElem?_eq_getElem ht]
   exact r
  ·rw[List.getD_eq_getElem?_getD,List.getElem?_eq_none (by omega)]
   trivial
 refine wp_mono (h (zn3 w L σ β) rfl hm.len _ w L β hsim) fun x a' w' q=> ?_
 have fin: ∀{x:Exit},(x= .normal∨x= .ret)→Lift (zn3 w L σ β) fn.ntmps (retQ P fn.results.toList σ.length R) x a' w'→
   a'.defers= []∧ ∃v,(results fn a'.tmps).run P w'= .ok v w'∧ ∃v' r L' σ' β',Ending.returned v=Ending.returned v'∧R r σ'∧σ.length≤σ'.length∧Mem (zn3 w L σ β) w' L' σ' β'∧RdS w' L' σ' β' r v':=by
  intro x hx q
  have hq: ∃e' σ' L' β',Sim (zn3 w L σ β) fn.ntmps e' σ' a' w' L' β'∧ ∃v,retV P fn.results.toList e' σ'=some v∧VRet σ.length R v σ':=by
   rcases hx with rfl|rfl<;>exact q
  obtain⟨e',σ0,L0',β1,hs,v,hv,v1,σ1,pick,σ',r,hfz,hp,har,hR⟩:=hq
  obtain⟨x,hx,hrd0⟩:=xl0 (P:=P) hs hv
  obtain⟨L',β2,hmem,_,_,hrd,_⟩:=hfz.ok hs.mem (xs:= [x]) ⟨hrd0,trivial⟩
  refine⟨hs.defs,x,hx,x,r,L',σ',_,rfl,hR, ?_,hmem.pick hp hm.len,zw6 (hp.bak hmem.len) har hrd⟩
  rw[hp.len]
  rcases Nat.lt_or_ge pick.length σ.length with hlt|hge
  ·have:=(List.getElem?_eq_some_iff.1 (hp.id pick.length hlt)).1
   omega
  ·exact hge
 cases x with
 |normal=>exact fin (.inl rfl) q
 |ret=>exact fin (.inr rfl) q
 |exit id=>obtain⟨e',σ',L',β',hs,hq⟩:=q;exact hq.elim
 |goto l=>exact q.elim
 |panic ch=>exact q.elim
 |outgrown=>exact q.elim
theorem VCalls.intro {f:FuncId} {fn:Func} {code:Code} {nt:Nat} {rs:List ResultVar} {args:List V} {σ:St} {R:V→St→Prop} (n0:Nat) (hf:P.funcs[f]? =some fn) (hnt:fn.ntmps=nt) (hrs:fn.results=rs.toArray) (hb:fn.body=some code) (h0:σ.length=n0) (hal:args.length≤nt)
  (h: ∀c:Ctx,c.σ0.length=n0→c.β0.length=c.σ0.length→zu3 P c nt code (retQ P rs n0 R) (envA 0 args) σ):VCalls P f args σ R:=
 VCalls.introW n0 hf hnt hrs hb h0 hal fun c h1 h2=>zc8 code _ _ _ (h c h1 h2)
theorem zC9 {code:Code} {Q:Exit→Act→World→Prop} (I:Nat→Act→World→Prop) (n:Nat) (h₀:I n a w)
  (round: ∀n a w,I n a w→code.wp P (Exit.then (fun a' w'=> ∃m,m<n∧I m a' w') Q) a w):(Code.loop code).wp P Q a w:=by
 intro b k cs
 have key: ∀n a w,I n a w→ ∃e a' w',Q e a' w'∧Arrives P (lone (b.at a (.code code:: .inLoop code::k)) cs w) b k cs e a' w':=by
  intro n
  induction n using Nat.strongRecOn with
  |_ n ih=>
   intro a w hI
   obtain⟨e,a₁,w₁,hq,harr⟩:=round n a w hI b (.inLoop code::k) cs
   cases e with
   |normal=>
    obtain⟨m,hlt,hI₁⟩:=hq
    obtain⟨e₂,a₂,w₂,hq₂,harr₂⟩:=ih m hlt a₁ w₁ hI₁
    exact⟨e₂,a₂,w₂,hq₂,.of_steps (Steps.trans harr (.one step_inLoop)) harr₂⟩
   |exit id=>exact⟨_,a₁,w₁,hq,.pass (x:= .inLoop code) rfl (fun _ _=> .inl (by simp)) harr⟩
   |goto l=>exact⟨_,a₁,w₁,hq,.pass (x:= .inLoop code) rfl (fun _ _=> .inl (by simp)) harr⟩
   |ret=>exact⟨_,a₁,w₁,hq,.pass (x:= .inLoop code) rfl (fun _ _=> .inl (by simp)) harr⟩
   |panic ch=>exact⟨_,a₁,w₁,hq,.pass (x:= .inLoop code) rfl (fun _ _=> .inl (by simp)) harr⟩
   |outgrown=>exact⟨_,a₁,w₁,hq,.pass (x:= .inLoop code) rfl (fun _ _=> .inl (by simp)) harr⟩
 obtain⟨e,a',w',hq,harr⟩:=key n a w h₀
 exact⟨e,a',w',hq,.of_steps (.one step_loop) harr⟩
def envK:List (Nat×V)→Env
 | []=>env0
 |(t,v)::r=>upd (envK r) t v
def yv4 (n0:Nat) (keep:List Nat) (Inv:List V→St→Nat→Prop) (m:Nat) (e:Env) (σ:St):Prop:=
 ∃vs s pick,Picks n0 pick σ s∧All2 (argS (ren pick σ.length)) vs (keep.map e)∧Inv vs s m
theorem zs4 (h:Sim c nt e σ a w L β) (hc:c.β0.length=c.σ0.length) {keep:List Nat} {Inv:List V→St→Nat→Prop} {m:Nat} (hk:yv4 c.σ0.length keep Inv m e σ):
  ∃vs s β',Inv vs s m∧vs.length=keep.length∧Sim c nt (envK (keep.zip vs)) s a w L β':=by
 obtain⟨vs,s,pick,hp,hall,hI⟩:=hk
 have hl:=hall.length
 simp at hl
 refine⟨vs,s,_,hI,hl,h.mem.pick hp hc,h.size,h.defs,fun t=> ?_⟩
 have hb:=hp.bak h.mem.len
 clear hI
 revert hall hl
 generalize keep=kl
 intro hall hl
 induction kl generalizing vs with
 |nil=>trivial
 |cons q kl ih=>cases vs with
  |nil=>simp at hl
  |cons v vs=>
   simp only[List.zip_cons_cons,envK,upd]
   by_cases hq:t=q
   ·subst hq
    rw[if_pos rfl]
    exact zw6 hb hall.1 (h.env t)
   ·rw[if_neg hq]
    exact ih vs hall.2 (by simpa using hl)
theorem VW.loop {body:Code} {Q:Exit→Env→St→Prop} (keep:List Nat) (Inv:List V→St→Nat→Prop) (hc:c.β0.length=c.σ0.length) (h0: ∃m,yv4 c.σ0.length keep Inv m e σ)
  (hr: ∀vs s m,Inv vs s m→vs.length=keep.length→zu3 P c nt body (yJ0 (fun e' σ'=> ∃m',m'<m∧yv4 c.σ0.length keep Inv m' e' σ') Q) (envK (keep.zip vs)) s):VW P c nt (.loop body) Q e σ:=by
 intro a w L β hs
 obtain⟨m,hk⟩:=h0
 refine zC9 (fun m a w=> ∃vs s L β,Inv vs s m∧vs.length=keep.length∧Sim c nt (envK (keep.zip vs)) s a w L β) m ?_ ?_
 ·obtain⟨vs,s,β',h1,h2,h3⟩:=zs4 hs hc hk
  exact⟨vs,s,L,β',h1,h2,h3⟩
 ·rintro m a w ⟨vs,s,L,β,h1,h2,h3⟩
  refine wp_mono (zc8 body _ _ _ (hr vs s m h1 h2) a w L β h3) fun x a' w' q=> ?_
  cases x with
  |normal=>
   obtain⟨e',σ',L',β',hs',m',hlt,hk'⟩:=q
   obtain⟨vs',s',β2,h4,h5,h6⟩:=zs4 hs' hc hk'
   exact⟨m',hlt,vs',s',L',β2,h4,h5,h6⟩
  |exit id=>exact q
  |goto l=>exact q
  |ret=>exact q
  |panic ch=>exact q
  |outgrown=>exact q
end
end Go.Vx
