/-
  Operations over trees, the plain ones: numbers, strings, bools, addresses, loads.
  No condition: a library text; nothing of the program is named.
-/
import Derived.Test.YtajjjghohakniaaGreatLAB
import Derived.Laws.StructEq
import Derived.Laws.BytesArg
import Derived.Laws.IdiomStrings
namespace Go.Vx
open Go
inductive Pk where
 |b
 |i (k:IntKind)
 |s
 deriving DecidableEq
def zv1 (P:Program) (sh:TypeId→Option (List Pk)):Nat→List Field→Option (List Pk)
 |_,[]=>some []
 |off,f::fs=>if f.name≠ "_" ∧f.offset=off then(sh f.type).bind fun ks=>if szT P f.type=some ks.length then(zv1 P sh (off+ks.length) fs).map (ks++ ·)else none else none
def zt0 (P:Program):Nat→TypeId→Option (List Pk)
 |0,_=>none
 |d+1,t=>
  match P.underlying t,aggT P t with
  |some .bool,some false=>some [.b]
  |some (.int k),some false=>some [.i k]
  |some .string,some false=>some [.s]
  |some (.struct fs),some true=>if P.stoodInHeld t=false then zv1 P (zt0 P d) 0 fs.toList else none
  |_,_=>none
def eqPk:Pk→V→V→Option Bool
 | .b,.bool x,.bool y=>some (x==y)
 | .i k,.int k1 x,.int k2 y=>if k1=k∧k2=k then some (x==y)else none
 | .s,.str x,.str y=>some (x==y)
 |_,_,_=>none
def eqVs:List Pk→List V→List V→Option Bool
 | [],[],[]=>some true
 |k::ks,a::as,b::bs=>(eqPk k a b).bind fun r=>(eqVs ks as bs).map (r&& ·)
 |_,_,_=>none
def eqPx:Pk→Value→Value→Option Bool
 | .b,.bool x,.bool y=>some (x==y)
 | .i k,.int k1 x,.int k2 y=>if k1=k∧k2=k then some (x==y)else none
 | .s,.string x,.string y=>some (x==y)
 |_,_,_=>none
def eqXs:List Pk→List Value→List Value→Option Bool
 | [],[],[]=>some true
 |k::ks,a::as,b::bs=>(eqPx k a b).bind fun r=>(eqXs ks as bs).map (r&& ·)
 |_,_,_=>none
def eqS (P:Program) (t:TypeId):Option (List Pk):=match P.underlying t with|some (.struct _)=>if P.eqGuardType P.depth t=false then zt0 P 10 t else none|_=>none
section
variable {P:Program} {c:Ctx} {w:World} {L:Nat→Nat} {σ:St} {β:List Value}
theorem xc9 {t:TypeId} {s:Nat} (h:szT P t=some s): ∃i,P.info? t=some i∧i.size=s:=by
 unfold szT at h
 cases hi:P.info? t with
 |none=>simp[hi]at h
 |some i=>simp[hi]at h;exact⟨i,rfl,h⟩
theorem wH {t:TypeId} {s:Nat} (h:szT P t=some s) (w:World):(sizeOf t).run P w= .ok s w:=by
 obtain⟨i,hi,rfl⟩:=xc9 h
 simp[sizeOf,typeInfo,hi]
theorem zl0 {t:TypeId} {b:Bool} (h:aggT P t=some b) (w:World):(isAgg t).run P w= .ok b w:=by
 unfold aggT at h
 cases hu:P.underlying t with
 |none=>simp[hu]at h
 |some d=>
  simp[hu]at h
  subst h
  simp only[isAgg,Sem.run_bind,run_underlying hu,Result.andThen_ok,yx3]
  cases d<;>rfl
theorem zU8: ∀(ks:List Pk) (as bs:List Value) (r:Bool),eqXs ks as bs=some r→as.length=ks.length∧bs.length=ks.length
 | [],[],[],_,_=>⟨rfl,rfl⟩
 |k::ks,a::as,b::bs,r,h=>by
  unfold eqXs at h
  cases h1:eqPx k a b with
  |none=>rw[h1]at h;cases h
  |some r1=>
   rw[h1]at h
   simp only[Option.bind_some,Option.map_eq_some_iff]at h
   obtain⟨r2,h2,_⟩:=h
   have:=zU8 ks as bs r2 h2
   simp[this.1,this.2]
 | [],[],_::_,_,h=>by cases h
 | [],_::_,_,_,h=>by cases h
 |_::_,[],_,_,h=>by cases h
 |_::_,_::_,[],_,h=>by cases h
theorem zQ0: ∀(ks ks':List Pk) (as bs:List Value) (r:Bool),eqXs (ks++ks') as bs=some r→
  ∃r1 r2,eqXs ks (as.take ks.length) (bs.take ks.length)=some r1∧eqXs ks' (as.drop ks.length) (bs.drop ks.length)=some r2∧r=(r1&&r2)
 | [],ks',as,bs,r,h=>⟨true,r,by simp[eqXs],by simpa using h,by simp⟩
 |k::ks,ks',a::as,b::bs,r,h=>by
  rw[List.cons_append]at h
  unfold eqXs at h
  cases h1:eqPx k a b with
  |none=>rw[h1]at h;cases h
  |some r0=>
   rw[h1]at h
   simp only[Option.bind_some,Option.map_eq_some_iff]at h
   obtain⟨r',h2,rfl⟩:=h
   obtain⟨r1,r2,h3,h4,rfl⟩:=zQ0 ks ks' as bs r' h2
   refine⟨r0&&r1,r2, ?_,by simpa using h4,by rw[Bool.and_assoc]⟩
   simp only[List.length_cons,List.take_succ_cons,eqXs,h1,Option.bind_some,h3,Option.map_some]
 |_::_,_,[],_,_,h=>by cases h
 |_::_,_,_::_,[],_,h=>by cases h
theorem yb8: ∀(ks:List Pk) (vs ws:List V) (xs ys:List Value) (r:Bool),All2 (RdC w L σ β) vs xs→All2 (RdC w L σ β) ws ys→eqVs ks vs ws=some r→eqXs ks xs ys=some r
 | [],[],[],[],[],r,_,_,h=>h
 |k::ks,v::vs,v2::us,x::xs,y::ys,r,h1,h2,h=>by
  unfold eqVs at h
  cases hk:eqPk k v v2 with
  |none=>rw[hk]at h;cases h
  |some r0=>
   rw[hk]at h
   simp only[Option.bind_some,Option.map_eq_some_iff]at h
   obtain⟨r',h3,rfl⟩:=h
   have ih:=yb8 ks vs us xs ys r' h1.2 h2.2 h3
   have hp:eqPx k x y=some r0:=by
    have hx:=h1.1;have hy:=h2.1
    unfold eqPk at hk
    split at hk
    ·cases hx;cases hy;exact hk
    ·cases hx;cases hy;exact hk
    ·cases hx;cases hy
     rename_i a b
     rw[←hk]
     simp only[eqPx,Option.some.injEq]
     show(a.toArray==b.toArray)=(a==b)
     simp
    ·cases hk
   simp only[eqXs,hp,Option.bind_some,ih,Option.map_some]
 | [],[],[],[],_::_,_,_,h2,_=>h2.elim
 | [],[],[],_::_,_,_,h1,_,_=>h1.elim
 | [],[],_::_,_,_,_,_,_,h=>by cases h
 | [],_::_,_,_,_,_,_,_,h=>by cases h
 |_::_,[],_,_,_,_,_,_,h=>by cases h
 |_::_,_::_,[],_,_,_,_,_,h=>by cases h
 |_::_,_::_,_::_,[],_,_,h1,_,_=>h1.elim
 |_::_,_::_,_::_,_::_,[],_,_,h2,_=>h2.elim
def zv4 (P:Program) (t:TypeId) (x:Value):Prop:=if aggT P t=some true then∃xs,x= .agg xs else x.oneCell'=true
theorem ye8 {t:TypeId} {ks:List Pk} {b:Bool} (hs:szT P t=some ks.length) (ha:aggT P t=some b) (h1:b=false→ks.length=1) (cs:Array Value) (off:Nat) (hl:off+ks.length≤cs.size) (hone: ∀x∈cs.toList,x.oneCell'=true):
  ∃x,(part t cs off).run P w= .ok x w∧zv4 P t x∧x.cells.toList=(cs.toList.drop off).take ks.length:=by
 cases b with
 |true=>
  refine⟨.agg (cs.extract off (off+ks.length)), ?_, ?_, ?_⟩
  ·simp only[part,Sem.run_bind,zl0 ha,Result.andThen_ok,if_true,wH hs,Sem.run_pure]
  ·unfold zv4;rw[if_pos ha];exact⟨_,rfl⟩
  ·simp[Value.cells,Array.toList_extract,List.extract_eq_take_drop]
 |false=>
  have hk:=h1 rfl
  have hlt:off<cs.size:=by omega
  refine⟨cs[off], ?_, ?_, ?_⟩
  ·simp only[part,Sem.run_bind,zl0 ha,Result.andThen_ok,Bool.false_eq_true,if_false,Array.getElem?_eq_getElem hlt,Sem.run_pure]
  ·unfold zv4
   rw[if_neg (by rw[ha];simp)]
   exact hone _ (by simp)
  ·rw[zv0 (hone _ (by simp)),hk]
   rw[List.drop_eq_getElem_cons (by simpa using hlt)]
   simp
theorem yn8 {d:Nat} {t:TypeId} {ks:List Pk} (h:zt0 P d t=some ks): ∃b,aggT P t=some b∧(b=false→ks.length=1):=by
 cases d with
 |zero=>cases h
 |succ d=>
  unfold zt0 at h
  split at h
  ·rename_i ha;simp at h;subst h;exact⟨false,ha,fun _=>rfl⟩
  ·rename_i ha;simp at h;subst h;exact⟨false,ha,fun _=>rfl⟩
  ·rename_i ha;simp at h;subst h;exact⟨false,ha,fun _=>rfl⟩
  ·rename_i ha;exact⟨true,ha,fun q=>by cases q⟩
  ·cases h
theorem xq5 {x y:Value} {r:Bool} (h:eqPx .b x y=some r): ∃a b,x= .bool a∧y= .bool b∧r=(a==b):=by
 cases x<;>first|(simp[eqPx]at h;done)|skip
 cases y<;>first|(simp[eqPx]at h;done)|skip
 simp[eqPx]at h
 exact⟨_,_,rfl,rfl,h.symm⟩
theorem xq6 {k:IntKind} {x y:Value} {r:Bool} (h:eqPx (.i k) x y=some r): ∃a b,x= .int k a∧y= .int k b∧r=(a==b):=by
 cases x<;>first|(simp[eqPx]at h;done)|skip
 cases y<;>first|(simp[eqPx]at h;done)|skip
 simp[eqPx]at h
 obtain⟨⟨rfl,rfl⟩,h⟩:=h
 exact⟨_,_,rfl,rfl,h.symm⟩
theorem xq7 {x y:Value} {r:Bool} (h:eqPx .s x y=some r): ∃a b,x= .string a∧y= .string b∧r=(a==b):=by
 cases x<;>first|(simp[eqPx]at h;done)|skip
 cases y<;>first|(simp[eqPx]at h;done)|skip
 simp only[eqPx,Option.some.injEq]at h
 exact⟨_,_,rfl,rfl,h.symm⟩
theorem zQ7: ∀(d:Nat) (t:TypeId) (ks:List Pk),zt0 P d t=some ks→ ∀(D:Nat),d≤D→ ∀(x y:Value) (r:Bool),zv4 P t x→zv4 P t y→(∀z∈x.cells.toList,z.oneCell'=true)→(∀z∈y.cells.toList,z.oneCell'=true)→
  eqXs ks x.cells.toList y.cells.toList=some r→ ∀w,(Op.equalIn D t x y).run P w= .ok r w
 |0,_,_,h=>by cases h
 |d+1,t,ks,h=>by
  intro D hD x y r hx hy hox hoy he w
  obtain⟨D,rfl⟩: ∃D',D=D'+1:=⟨D - 1,by omega⟩
  have prim: ∀k,ks= [k]→aggT P t=some false→ ∃r',eqPx k x y=some r'∧r=r':=by
   intro k hk ha
   unfold zv4 at hx hy
   rw[if_neg (by rw[ha];simp)]at hx hy
   rw[zv0 hx,zv0 hy,hk]at he
   simp only[eqXs]at he
   cases hp:eqPx k x y with
   |none=>rw[hp]at he;cases he
   |some r'=>rw[hp]at he;simp at he;exact⟨r',rfl,he.symm⟩
  unfold zt0 at h
  split at h
  ·rename_i hu ha
   simp at h
   obtain⟨r',hp,rfl⟩:=prim .b h.symm ha
   obtain⟨m,n,rfl,rfl,rfl⟩:=xq5 hp
   simp[Op.equalIn,run_underlying hu]
  ·rename_i k hu ha
   simp at h
   obtain⟨r',hp,rfl⟩:=prim (.i k) h.symm ha
   obtain⟨m,n,rfl,rfl,rfl⟩:=xq6 hp
   simp[Op.equalIn,run_underlying hu]
  ·rename_i hu ha
   simp at h
   obtain⟨r',hp,rfl⟩:=prim .s h.symm ha
   obtain⟨m,n,rfl,rfl,rfl⟩:=xq7 hp
   simp[Op.equalIn,run_underlying hu]
  ·rename_i fs hu ha
   split at h
   ·rename_i hst
    unfold zv4 at hx hy
    rw[if_pos ha]at hx hy
    obtain⟨xs,rfl⟩:=hx
    obtain⟨ys,rfl⟩:=hy
    have hfs:P.fieldsOf t=fs:=by simp[Program.fieldsOf,hu]
    rw[run_equalIn_struct (P:=P) (w:=w) D t xs ys (by rw[hfs];exact hu) hst,hfs]
    simp only[Value.cells]at he hox hoy
    have key: ∀(l:List Field) (off:Nat) (ks:List Pk) (r:Bool),zv1 P (zt0 P d) off l=some ks→eqXs ks (xs.toList.drop off) (ys.toList.drop off)=some r→(Op.eqFields D xs ys l).run P w= .ok r w:=by
     intro l
     induction l with
     |nil=>
      intro off ks r hk hr
      simp[zv1]at hk
      subst hk
      have:=zU8 _ _ _ _ hr
      have h1:xs.toList.drop off= []:=List.length_eq_zero_iff.1 this.1
      have h2:ys.toList.drop off= []:=List.length_eq_zero_iff.1 this.2
      rw[h1,h2]at hr
      simp[eqXs]at hr
      subst hr
      simp[Op.eqFields]
     |cons f l ih=>
      intro off ks r hk hr
      unfold zv1 at hk
      split at hk
      ·rename_i hf
       cases hsh:zt0 P d f.type with
       |none=>rw[hsh]at hk;cases hk
       |some k1=>
        rw[hsh]at hk
        simp only[Option.bind_some]at hk
        split at hk
        ·rename_i hsz
         simp only[Option.map_eq_some_iff]at hk
         obtain⟨k2,hk2,rfl⟩:=hk
         have hlen:=zU8 _ _ _ _ hr
         simp only[List.length_drop,List.length_append,Array.length_toList]at hlen
         obtain⟨r1,r2,h1,h2,rfl⟩:=zQ0 k1 k2 _ _ _ hr
         obtain⟨b,hab,hb1⟩:=yn8 hsh
         have hk1:0<k1.length∨k1.length=0:=by omega
         have hbx:off+k1.length≤xs.size∧off+k1.length≤ys.size∨k1.length=0∧b=true:=by
          rcases hk1 with q|q
          ·left;omega
          ·right
           refine⟨q, ?_⟩
           cases b with
           |true=>rfl
           |false=>have:=hb1 rfl;omega
         have parts: ∃a b',(part f.type xs off).run P w= .ok a w∧(part f.type ys off).run P w= .ok b' w∧zv4 P f.type a∧zv4 P f.type b'∧a.cells.toList=(xs.toList.drop off).take k1.length∧b'.cells.toList=(ys.toList.drop off).take k1.length:=by
          rcases hbx with ⟨q1,q2⟩|⟨q,rfl⟩
          ·obtain⟨a,p1,p2,p3⟩:=ye8 (w:=w) hsz hab hb1 xs off q1 hox
           obtain⟨b',s1,s2,s3⟩:=ye8 (w:=w) hsz hab hb1 ys off q2 hoy
           exact⟨a,b',p1,s1,p2,s2,p3,s3⟩
          ·refine⟨.agg (xs.extract off (off+k1.length)),.agg (ys.extract off (off+k1.length)), ?_, ?_, ?_, ?_, ?_, ?_⟩
           ·simp only[part,Sem.run_bind,zl0 hab,Result.andThen_ok,if_true,wH hsz,Sem.run_pure]
           ·simp only[part,Sem.run_bind,zl0 hab,Result.andThen_ok,if_true,wH hsz,Sem.run_pure]
           ·unfold zv4;rw[if_pos hab];exact⟨_,rfl⟩
           ·unfold zv4;rw[if_pos hab];exact⟨_,rfl⟩
           ·simp[Value.cells,Array.toList_extract,List.extract_eq_take_drop]
           ·simp[Value.cells,Array.toList_extract,List.extract_eq_take_drop]
         obtain⟨a,b',p1,p2,f1,f2,c1,c2⟩:=parts
         have hrun:=zQ7 d f.type k1 hsh D (by omega) a b' r1 f1 f2 (by rw[c1];exact fun z hz=>hox z (List.mem_of_mem_drop (List.mem_of_mem_take hz))) (by rw[c2];exact fun z hz=>hoy z (List.mem_of_mem_drop (List.mem_of_mem_take hz))) (by rw[c1,c2];exact h1) w
         have hih:=ih (off+k1.length) k2 r2 hk2 (by simpa[List.drop_drop]using h2)
         simp only[Op.eqFields,hf.1,ne_eq,not_false_eq_true,if_true,Sem.run_bind,hf.2,p1,p2,hrun,Result.andThen_ok]
         cases r1
         ·simp
         ·simpa using hih
        ·cases hk
      ·cases hk
    exact key fs.toList 0 ks r h (by simpa using he)
   ·cases h
  ·cases h
end
end Go.Vx
namespace Go.Vx
open Go
def Yield (P:Program) (c:Ctx) (o:Oper) (a:Act) (w:World) (L:Nat→Nat) (σ:St) (β:List Value) (v:V) (σ':St):Prop:=
 ∃x w' L' β',((execOp a.eval o).run P w= .ok (.value x) w'∨((execOp a.eval o).run P w= .ok .skip w'∧x=undef))∧Mem c w' L' σ' β'∧Le w L w' L'∧Ext σ β σ' β'∧RdS w' L' σ' β' v x
def ROk (r:R) (σ:St) (Y:V→St→Prop):Prop:=
 match r with
 | .fail=>True
 | .ok v=>Y v σ
 | .need p v=>p→Y v σ
 | .st v σ'=>Y v σ'
 | .needst p v σ'=>p→Y v σ'
 | .all f=> ∃b,Y (f b) σ
 | .any l=> ∃p∈l,Y p.1 p.2
section
variable {P:Program} {c:Ctx} {nt:Nat} {e:Env} {σ:St} {a:Act} {w:World} {L:Nat→Nat} {β:List Value} {o:Oper}
theorem Yield.pure (h:Sim c nt e σ a w L β) {v:V} {x:Value} (hr:(execOp a.eval o).run P w= .ok (.value x) w) (r:RdS w L σ β v x):Yield P c o a w L σ β v σ:=
 ⟨x,w,L,β,.inl hr,h.mem,Le.refl _ _,Ext.refl _ _,r⟩
def zA5 (b x y:V):R:=
 match b with
 | .bool t=> .ok (if t then x else y)
 |_=> .fail
theorem xk2 {dst:Option Tmp} {ty:TypeId} {pos:String} {aft:Array Edge} {g:Option (Nat×Bool)} (x y z:Operand) (h:Sim c nt e σ a w L β):
  ROk (zA5 (zF e x) (zF e y) (zF e z)) σ (Yield P c ⟨dst,.pick x y z,ty,pos,aft,g⟩ a w L σ β):=by
 have hx:=h.eval x
 unfold zA5
 split
 ·rename_i b hb
  rw[hb]at hx
  have:=zb2 hx
  refine Yield.pure h (x:=if b then a.eval y else a.eval z) (by simp[execOp,this,asBool]) ?_
  cases b
  ·exact h.eval z
  ·exact h.eval y
 ·trivial
theorem xk1 {dst:Option Tmp} {ty:TypeId} {pos:String} {aft:Array Edge} {g:Option (Nat×Bool)} (x:Operand) (h:Sim c nt e σ a w L β):
  ROk (.ok (zF e x)) σ (Yield P c ⟨dst,.move x,ty,pos,aft,g⟩ a w L σ β):=
 Yield.pure h (by simp[execOp]) (h.eval x)
theorem yO7 {dst:Option Tmp} {ty:TypeId} {pos:String} {aft:Array Edge} {g:Option (Nat×Bool)} (x:Operand) (h:Sim c nt e σ a w L β):
  ROk (.ok (zF e x)) σ (Yield P c ⟨dst,.assign x,ty,pos,aft,g⟩ a w L σ β):=
 Yield.pure h (by simp[execOp]) (h.eval x)
def zQ2 (x:V):R:=
 match x with
 | .ptr id off=> .ok (.ptr id off)
 | .elp cs off=> .ok (.elp cs off)
 | .lsp id s n k j=> .ok (.lsp id s n k j)
 | .fn f caps=> .ok (.fn f caps)
 |_=> .fail
theorem yr6 {dst:Option Tmp} {ty:TypeId} {pos:String} {aft:Array Edge} {g:Option (Nat×Bool)} (x:Operand) (h:Sim c nt e σ a w L β):
  ROk (zQ2 (zF e x)) σ (Yield P c ⟨dst,.nilCheck x,ty,pos,aft,g⟩ a w L σ β):=by
 have hx:=h.eval x
 unfold zQ2
 split
 ·rename_i id off hb
  rw[hb]at hx
  obtain⟨b,_,hv⟩:=hx
  exact Yield.pure h (x:=a.eval x) (by simp[execOp,hv]) (hb▸h.eval x)
 ·rename_i cs off hb
  rw[hb]at hx
  obtain⟨b,o,_,hv,_⟩:=hx
  exact Yield.pure h (x:=a.eval x) (by simp[execOp,hv]) (hb▸h.eval x)
 ·rename_i id s n k j hb
  rw[hb]at hx
  obtain⟨b,o,hv,_⟩:=hx
  exact Yield.pure h (x:=a.eval x) (by simp[execOp,hv]) (hb▸h.eval x)
 ·rename_i f caps hb
  rw[hb]at hx
  obtain⟨xs,hv,_⟩:=hx
  exact Yield.pure h (x:=a.eval x) (by simp[execOp,hv]) (hb▸h.eval x)
 ·trivial
def zz4 (op:BinOp) (k:IntKind) (x y:Int):Int:=
 match op with
 | .and=>k.wrap (BitVec.ofInt k.bits x&&&BitVec.ofInt k.bits y).toNat
 | .or=>k.wrap (BitVec.ofInt k.bits x|||BitVec.ofInt k.bits y).toNat
 | .xor=>k.wrap (BitVec.ofInt k.bits x^^^BitVec.ofInt k.bits y).toNat
 |_=>k.wrap (BitVec.ofInt k.bits x&&& ~~~BitVec.ofInt k.bits y).toNat
def zH4 (op:BinOp) (k:IntKind) (x y:Int):R:=
 match op with
 | .add=> .ok (.int k (k.wrap (x+y)))
 | .sub=> .ok (.int k (k.wrap (x - y)))
 | .mul=> .ok (.int k (k.wrap (x*y)))
 | .quo=> .need (y≠0) (.int k (k.wrap (x.tdiv y)))
 | .rem=> .need (y≠0) (.int k (x.tmod y))
 | .and=> .ok (.int k (zz4 .and k x y))
 | .or=> .ok (.int k (zz4 .or k x y))
 | .xor=> .ok (.int k (zz4 .xor k x y))
 | .andNot=> .ok (.int k (zz4 .andNot k x y))
 | .eql=> .ok (.bool (x==y))
 | .neq=> .ok (.bool (x !=y))
 | .lss=> .ok (.bool (decide (x<y)))
 | .leq=> .ok (.bool (decide (x≤y)))
 | .gtr=> .ok (.bool (decide (x>y)))
 | .geq=> .ok (.bool (decide (x≥y)))
 | .shl=> .need (0≤y) (.int k (k.wrap (x*2^(min y.toNat k.bits))))
 | .shr=> .need (0≤y) (.int k (x.fdiv (2^(min y.toNat k.bits))))
def zI4 (op:BinOp) (x y:List UInt8):R:=
 match op with
 | .add=> .need (x.length+y.length≤9223372036854775807) (.str (x++y))
 | .eql=> .ok (.bool (x==y))
 | .neq=> .ok (.bool (!(x==y)))
 | .lss=> .ok (.bool (Op.bytesLess x y))
 | .leq=> .ok (.bool (Op.bytesLess x y||x==y))
 | .gtr=> .ok (.bool (!(Op.bytesLess x y||x==y)))
 | .geq=> .ok (.bool (!(Op.bytesLess x y)))
 |_=> .fail
def eqK (P:Program) (t:TypeId):Nat:=
 match P.underlying t with
 |some .bool=>1
 |some (.pointer _)=>2
 |some (.slice _)=>3
 |_=>0
def yr3 (op:BinOp) (n:Nat):R:=
 match op with
 | .eql=>if 0<n then .ok (.bool false)else .all .bool
 | .neq=>if 0<n then .ok (.bool true)else .all fun b=> .bool (!b)
 |_=> .fail
def lenV:V→Option Nat
 | .sl _ rows=>some rows.length
 | .lsv _ _ _ _ m=>some m
 |_=>none
def xr9:V→Bool
 | .sl .full []=>true
 |_=>false
def zk2 (op:BinOp) (ek:Nat) (es:Option (List Pk)) (x y:V):R:=
 match x,y with
 | .int k a,.int k' b=>if k=k' then zH4 op k a b else(match op with| .shl=> .need (0≤b) (.int k (k.wrap (a*2^(min b.toNat k.bits))))| .shr=> .need (0≤b) (.int k (a.fdiv (2^(min b.toNat k.bits))))|_=> .fail)
 | .str a,.str b=>zI4 op a b
 | .bool a,.bool b=>if ek=1 then(match op with| .eql=> .ok (.bool (a==b))| .neq=> .ok (.bool (!(a==b)))|_=> .fail)else .fail
 | .ptr _ _,.nilp=>if ek=2 then(match op with| .eql=> .ok (.bool false)| .neq=> .ok (.bool true)|_=> .fail)else .fail
 | .nilp,.nilp=>if ek=2 then(match op with| .eql=> .ok (.bool true)| .neq=> .ok (.bool false)|_=> .fail)else .fail
 | .agg as,.agg bs=>(match es.bind fun ks=>eqVs ks as bs with
  |some r=>(match op with| .eql=> .ok (.bool r)| .neq=> .ok (.bool (!r))|_=> .fail)
  |none=> .fail)
 |_,_=> .fail
def zp4 (op:BinOp) (ek:Nat) (x:V):R:=if ek=3 then(match lenV x with|some n=>yr3 op n|none=> .fail)else .fail
def zf1:Operand→Bool
 | .const (.slice none 0 0)=>true
 |_=>false
theorem zq0 {k k':IntKind} {x y:Int} (op:BinOp) (hop:op= .shl∨op= .shr) (hy:0≤y) (w:World):
  (Op.shift op k x k' y).run P w= .ok (.int k (if op= .shl then k.wrap (x*2^(min y.toNat k.bits))else x.fdiv (2^(min y.toNat k.bits)))) w:=by
 have: ¬y<0:=by omega
 rcases hop with rfl|rfl<;>simp[Op.shift,this]
theorem yP0 {dst:Option Tmp} {ty:TypeId} {pos:String} {aft:Array Edge} {g:Option (Nat×Bool)} (op:BinOp) (t t':TypeId) (x y:Operand) (h:Sim c nt e σ a w L β) {k:IntKind} {m n:Int} (hx:a.eval x= .int k m) (hy:a.eval y= .int k n):
  ROk (zH4 op k m n) σ (Yield P c ⟨dst,.binOp op t x y t',ty,pos,aft,g⟩ a w L σ β):=by
 have run: ∀v,(binOp op t (.int k m) (.int k n)).run P w= .ok v w→(execOp a.eval ⟨dst,.binOp op t x y t',ty,pos,aft,g⟩).run P w= .ok (.value v) w:=by
  intro v hv
  cases op<;>simp[execOp,hx,hy,eqGuard,hv]
 cases op
 case quo=>exact fun hn=>Yield.pure h (run _ (by simp[binOp,Op.intDiv,hn])) (RdP.int _ _)
 case rem=>exact fun hn=>Yield.pure h (run _ (by simp[binOp,Op.intDiv,hn])) (RdP.int _ _)
 case shl=>exact fun hn=>Yield.pure h (run _ (by simp only[binOp];rw[zq0 .shl (.inl rfl) hn];simp)) (RdP.int _ _)
 case shr=>exact fun hn=>Yield.pure h (run _ (by simp only[binOp];rw[zq0 .shr (.inr rfl) hn];simp)) (RdP.int _ _)
 case add=>exact Yield.pure h (run _ (by simp[binOp,Op.intArith])) (RdP.int _ _)
 case sub=>exact Yield.pure h (run _ (by simp[binOp,Op.intArith])) (RdP.int _ _)
 case mul=>exact Yield.pure h (run _ (by simp[binOp,Op.intArith])) (RdP.int _ _)
 case and=>exact Yield.pure h (run _ (by simp only[binOp,Op.intBits,ne_eq,not_true_eq_false,if_false,Sem.run_pure];rfl)) (RdP.int _ _)
 case or=>exact Yield.pure h (run _ (by simp only[binOp,Op.intBits,ne_eq,not_true_eq_false,if_false,Sem.run_pure];rfl)) (RdP.int _ _)
 case xor=>exact Yield.pure h (run _ (by simp only[binOp,Op.intBits,ne_eq,not_true_eq_false,if_false,Sem.run_pure];rfl)) (RdP.int _ _)
 case andNot=>exact Yield.pure h (run _ (by simp only[binOp,Op.intBits,ne_eq,not_true_eq_false,if_false,Sem.run_pure];rfl)) (RdP.int _ _)
 case eql=>exact Yield.pure h (run _ (by simp[binOp,Op.intCmp])) (RdP.bool _)
 case neq=>exact Yield.pure h (run _ (by simp[binOp,Op.intCmp])) (RdP.bool _)
 case lss=>exact Yield.pure h (run _ (by simp[binOp,Op.intCmp])) (RdP.bool _)
 case leq=>exact Yield.pure h (run _ (by simp[binOp,Op.intCmp])) (RdP.bool _)
 case gtr=>exact Yield.pure h (run _ (by simp[binOp,Op.intCmp])) (RdP.bool _)
 case geq=>exact Yield.pure h (run _ (by simp[binOp,Op.intCmp])) (RdP.bool _)
theorem yP5 {dst:Option Tmp} {ty:TypeId} {pos:String} {aft:Array Edge} {g:Option (Nat×Bool)} (op:BinOp) (t t':TypeId) (x y:Operand) (h:Sim c nt e σ a w L β) {m n:List UInt8} (hx:a.eval x= .string ⟨m.toArray⟩) (hy:a.eval y= .string ⟨n.toArray⟩):
  ROk (zI4 op m n) σ (Yield P c ⟨dst,.binOp op t x y t',ty,pos,aft,g⟩ a w L σ β):=by
 have run: ∀v,(binOp op t (.string ⟨m.toArray⟩) (.string ⟨n.toArray⟩)).run P w= .ok v w→(execOp a.eval ⟨dst,.binOp op t x y t',ty,pos,aft,g⟩).run P w= .ok (.value v) w:=by
  intro v hv
  cases op<;>simp[execOp,hx,hy,eqGuard,hv]
 cases op
 case add=>
  intro hn
  refine Yield.pure h (run (.string ⟨(m++n).toArray⟩) ?_) (RdP.str _)
  have hs: ¬((m.length:Int)+(n.length:Int)>9223372036854775807):=by omega
  have hsz: ∀l:List UInt8,(ByteArray.mk l.toArray).size=l.length:=fun l=>by simp[ByteArray.size]
  have happ:(ByteArray.mk m.toArray)++(ByteArray.mk n.toArray)=ByteArray.mk (m++n).toArray:=by
   apply ByteArray.ext;simp
  simp[binOp,Op.stringOp,hsz,hs,happ,IntKind.max,IntKind.signed,IntKind.bits]
 case eql=>exact Yield.pure h (run _ (by simp[binOp,Op.stringOp])) (RdP.bool _)
 case neq=>exact Yield.pure h (run _ (by simp[binOp,Op.stringOp])) (RdP.bool _)
 case lss=>exact Yield.pure h (run _ (by simp[binOp,Op.stringOp])) (RdP.bool _)
 case leq=>exact Yield.pure h (run _ (by simp[binOp,Op.stringOp])) (RdP.bool _)
 case gtr=>exact Yield.pure h (run _ (by simp[binOp,Op.stringOp])) (RdP.bool _)
 case geq=>exact Yield.pure h (run _ (by simp[binOp,Op.stringOp])) (RdP.bool _)
 all_goals trivial
theorem eqK1 {t:TypeId} (h:eqK P t=1):P.underlying t=some .bool:=by
 unfold eqK at h
 split at h<;>first|assumption|simp at h
theorem eqK2 {t:TypeId} (h:eqK P t=2): ∃el,P.underlying t=some (.pointer el):=by
 unfold eqK at h
 split at h<;>first|exact⟨_,by assumption⟩|simp at h
theorem zO3 {t:TypeId} (hb:P.underlying t=some .bool) (x y:Bool) (w:World) (d:Nat):(Op.equalIn (d+1) t (.bool x) (.bool y)).run P w= .ok (x==y) w:=by
 simp[Op.equalIn,run_underlying hb]
theorem zR7 {t el:TypeId} (hb:P.underlying t=some (.pointer el)) (x:Option Addr) (w:World) (d:Nat):(Op.equalIn (d+1) t (.pointer x) (.pointer none)).run P w= .ok x.isNone w:=by
 cases x<;>simp[Op.equalIn,run_underlying hb]
theorem zB8 {t:TypeId} (hb:P.underlying t=some .bool) (x y:Bool) (w:World):(Op.equal t (.bool x) (.bool y)).run P w= .ok (x==y) w:=
 zO3 hb x y w 9999
theorem zm9 {t el:TypeId} (hb:P.underlying t=some (.pointer el)) (x:Option Addr) (w:World):(Op.equal t (.pointer x) (.pointer none)).run P w= .ok x.isNone w:=
 zR7 hb x w 9999
theorem xs5 {dst:Option Tmp} {ty:TypeId} {pos:String} {aft:Array Edge} {g:Option (Nat×Bool)} (op:BinOp) (t t':TypeId) (x y:Operand) (h:Sim c nt e σ a w L β):
  ROk (zk2 op (eqK P t) (eqS P t) (zF e x) (zF e y)) σ (Yield P c ⟨dst,.binOp op t x y t',ty,pos,aft,g⟩ a w L σ β):=by
 have hx:=h.eval x
 have hy:=h.eval y
 unfold zk2
 split
 ·rename_i k m k' n h1 h2
  rw[h1]at hx;rw[h2]at hy
  have e1:=yQ hx;have e2:=yQ hy
  by_cases hk:k=k'
  ·subst hk
   rw[if_pos rfl]
   exact yP0 op t t' x y h e1 e2
  ·rw[if_neg hk]
   split
   ·exact fun hn=>Yield.pure h (by simp only[execOp,e1,e2,eqGuard,binOp];simp[zq0 .shl (.inl rfl) hn]) (RdP.int _ _)
   ·exact fun hn=>Yield.pure h (by simp only[execOp,e1,e2,eqGuard,binOp];simp[zq0 .shr (.inr rfl) hn]) (RdP.int _ _)
   ·trivial
 ·rename_i m n h1 h2
  rw[h1]at hx;rw[h2]at hy
  exact yP5 op t t' x y h (wL hx) (wL hy)
 ·rename_i m n h1 h2
  rw[h1]at hx;rw[h2]at hy
  have e1:=zb2 hx;have e2:=zb2 hy
  split
  ·rename_i hb
   have hbt:=eqK1 hb
   split
   ·exact Yield.pure h (by simp[execOp,e1,e2,eqGuard,binOp,zB8 hbt]) (RdP.bool _)
   ·exact Yield.pure h (by simp[execOp,e1,e2,eqGuard,binOp,zB8 hbt]) (RdP.bool _)
   ·trivial
  ·trivial
 ·rename_i id off h1 h2
  rw[h1]at hx;rw[h2]at hy
  obtain⟨b,_,e1⟩:=hx
  have e2:=zX6 hy
  split
  ·rename_i hb
   obtain⟨el,hbt⟩:=eqK2 hb
   split
   ·exact Yield.pure h (x:= .bool false) (by simp[execOp,e1,e2,eqGuard,binOp,zm9 hbt]) (RdP.bool _)
   ·exact Yield.pure h (x:= .bool true) (by simp[execOp,e1,e2,eqGuard,binOp,zm9 hbt]) (RdP.bool _)
   ·trivial
  ·trivial
 ·rename_i h1 h2
  rw[h1]at hx;rw[h2]at hy
  have e1:=zX6 hx
  have e2:=zX6 hy
  split
  ·rename_i hb
   obtain⟨el,hbt⟩:=eqK2 hb
   split
   ·exact Yield.pure h (x:= .bool true) (by simp[execOp,e1,e2,eqGuard,binOp,zm9 hbt]) (RdP.bool _)
   ·exact Yield.pure h (x:= .bool false) (by simp[execOp,e1,e2,eqGuard,binOp,zm9 hbt]) (RdP.bool _)
   ·trivial
  ·trivial
 ·rename_i as bs h1 h2
  rw[h1]at hx;rw[h2]at hy
  obtain⟨xs,e1,r1⟩:=hx
  obtain⟨ys,e2,r2⟩:=hy
  split
  ·rename_i r hr
   cases hes:eqS P t with
   |none=>rw[hes]at hr;cases hr
   |some ks=>
    rw[hes]at hr
    simp only[Option.bind_some]at hr
    have hxs:=yb8 ks as bs xs ys r r1 r2 hr
    unfold eqS at hes
    split at hes
    ·rename_i fs hu
     split at hes
     ·rename_i hg
      have ha:aggT P t=some true:=by simp[aggT,hu,yx3]
      have o1: ∀z∈xs,z.oneCell'=true:=fun z hz=>by
       obtain⟨i,hi⟩:=List.mem_iff_getElem?.1 hz
       have hl:=r1.length
       obtain⟨y,hy',rr⟩:=r1.get i (as[i]'(by rw[hl];exact(List.getElem?_eq_some_iff.1 hi).1)) (List.getElem?_eq_getElem _)
       rw[hi]at hy';cases hy'
       exact rr.oneCell
      have o2: ∀z∈ys,z.oneCell'=true:=fun z hz=>by
       obtain⟨i,hi⟩:=List.mem_iff_getElem?.1 hz
       have hl:=r2.length
       obtain⟨y,hy',rr⟩:=r2.get i (bs[i]'(by rw[hl];exact(List.getElem?_eq_some_iff.1 hi).1)) (List.getElem?_eq_getElem _)
       rw[hi]at hy';cases hy'
       exact rr.oneCell
      have hform: ∀z:List Value,zv4 P t (.agg z.toArray):=fun z=>by unfold zv4;rw[if_pos ha];exact⟨_,rfl⟩
      have hrun:=zQ7 10 t ks hes 10000 (by omega) (.agg xs.toArray) (.agg ys.toArray) r (hform _) (hform _) (by simpa[Value.cells]using o1) (by simpa[Value.cells]using o2) (by simpa[Value.cells]using hxs) w
      split
      ·exact Yield.pure h (x:= .bool r) (by simp only[execOp,e1,e2,Sem.run_bind,run_eqGuard_agg (P:=P) (w:=w) _ t x y _ _ hg,Result.andThen_ok,run_eql_struct (P:=P) (w:=w) t,hrun];simp) (RdP.bool _)
      ·exact Yield.pure h (x:= .bool (!r)) (by simp only[execOp,e1,e2,Sem.run_bind,run_eqGuard_agg (P:=P) (w:=w) _ t x y _ _ hg,Result.andThen_ok,run_neq_struct (P:=P) (w:=w) t,hrun];simp) (RdP.bool _)
      ·trivial
     ·cases hes
    ·cases hes
  ·trivial
 ·trivial
theorem eqK3 {t:TypeId} (h:eqK P t=3): ∃el,P.underlying t=some (.slice el):=by
 unfold eqK at h
 split at h<;>first|exact⟨_,by assumption⟩|simp at h
theorem yi0 {y:Operand} (h:zf1 y=true):y= .const (.slice none 0 0):=by
 unfold zf1 at h
 split at h
 ·rfl
 ·cases h
theorem zi9 {t el:TypeId} (hb:P.underlying t=some (.slice el)) (a:Option Addr) (n cap:Nat) (w:World):(Op.equal t (.slice a n cap) (.slice none 0 0)).run P w= .ok a.isNone w:=by
 have key: ∀d,(Op.equalIn (d+1) t (.slice a n cap) (.slice none 0 0)).run P w= .ok a.isNone w:=fun d=>by
  cases a<;>simp[Op.equalIn,run_underlying hb]
 exact key 9999
theorem yZ8 {dst:Option Tmp} {ty:TypeId} {pos:String} {aft:Array Edge} {g:Option (Nat×Bool)} (op:BinOp) (t t':TypeId) (x y:Operand) (hy:zf1 y=true) (h:Sim c nt e σ a w L β):
  ROk (zp4 op (eqK P t) (zF e x)) σ (Yield P c ⟨dst,.binOp op t x y t',ty,pos,aft,g⟩ a w L σ β):=by
 have hx:=h.eval x
 have hy:=yi0 hy
 subst hy
 unfold zp4
 split
 ·rename_i hk
  obtain⟨el,hu⟩:=eqK3 hk
  split
  ·rename_i n hn
   have hv: ∃ad cap,a.eval x= .slice ad n cap∧(0<n→ad.isNone=false):=by
    unfold lenV at hn
    split at hn
    ·rename_i gg rows h1
     rw[h1]at hx
     cases hn
     have hr:=zs0 hx
     clear hx
     revert hr
     generalize a.eval x=z
     intro hr
     cases hr with
     |sl0 _ ad cap hg ha=>exact⟨ad,cap,rfl,fun q=>by simp at q⟩
     |sl _ _ s b o cap c ha hs hlen hlim hcap hg hc hr=>exact⟨_,cap,rfl,fun _=>rfl⟩
    ·rename_i id s n' lo m h1
     rw[h1]at hx
     cases hn
     obtain⟨ad,cap,hv,hmc,hpos,_⟩:=hx
     exact⟨ad,cap,hv,fun q=>by obtain⟨b,o,rfl⟩:=hpos (by have:=hmc.1;omega);rfl⟩
    ·cases hn
   obtain⟨ad,cap,hv,hz⟩:=hv
   have hc:a.eval (.const (.slice none 0 0))= .slice none 0 0:=rfl
   unfold yr3
   split
   ·split
    ·rename_i h0
     exact Yield.pure h (x:= .bool false) (by simp[execOp,hv,hc,eqGuard,binOp,zi9 hu,hz h0]) (RdP.bool _)
    ·exact⟨ad.isNone,Yield.pure h (x:= .bool ad.isNone) (by simp[execOp,hv,hc,eqGuard,binOp,zi9 hu]) (RdP.bool _)⟩
   ·split
    ·rename_i h0
     exact Yield.pure h (x:= .bool true) (by simp[execOp,hv,hc,eqGuard,binOp,zi9 hu,hz h0]) (RdP.bool _)
    ·exact⟨ad.isNone,Yield.pure h (x:= .bool (!ad.isNone)) (by simp[execOp,hv,hc,eqGuard,binOp,zi9 hu]) (RdP.bool _)⟩
   ·trivial
  ·trivial
 ·trivial
def evUn (op:UnOp) (x:V):R:=
 match op,x with
 | .not,.bool b=> .ok (.bool (!b))
 | .neg,.int k n=> .ok (.int k (k.wrap (0 - n)))
 | .xor,.int k n=> .ok (.int k (zz4 .xor k (if k.signed then -1 else k.max) n))
 |_,_=> .fail
theorem xv8 {dst:Option Tmp} {ty:TypeId} {pos:String} {aft:Array Edge} {g:Option (Nat×Bool)} (op:UnOp) (t:TypeId) (x:Operand) (h:Sim c nt e σ a w L β):
  ROk (evUn op (zF e x)) σ (Yield P c ⟨dst,.unOp op t x,ty,pos,aft,g⟩ a w L σ β):=by
 have hx:=h.eval x
 unfold evUn
 split
 ·rename_i b h1
  rw[h1]at hx
  exact Yield.pure h (x:= .bool (!b)) (by simp[execOp,zb2 hx,Op.unary]) (RdP.bool _)
 ·rename_i k n h1
  rw[h1]at hx
  exact Yield.pure h (x:= .int k (k.wrap (0 - n))) (by simp only[execOp,yQ hx,Op.unary,Op.intArith,Sem.run_bind,Sem.run_pure,Result.andThen_ok]) (RdP.int _ _)
 ·rename_i k n h1
  rw[h1]at hx
  exact Yield.pure h (x:= .int k (zz4 .xor k (if k.signed then -1 else k.max) n)) (by simp only[execOp,yQ hx,Op.unary,Op.intBits,Sem.run_bind,Sem.run_pure,Result.andThen_ok];rfl) (RdP.int _ _)
 ·trivial
def zj5 (x:V) (i:Nat):R:=
 match x with
 | .tup vs=>(match vs[i]? with|some v=> .ok v|none=> .fail)
 |_=> .fail
theorem yz2 {dst:Option Tmp} {ty:TypeId} {pos:String} {aft:Array Edge} {g:Option (Nat×Bool)} (x:Operand) (i:Nat) (h:Sim c nt e σ a w L β):
  ROk (zj5 (zF e x) i) σ (Yield P c ⟨dst,.extract x i,ty,pos,aft,g⟩ a w L σ β):=by
 have hx:=h.eval x
 unfold zj5
 split
 ·rename_i vs h1
  rw[h1]at hx
  obtain⟨xs,hv,hall⟩:=hx
  split
  ·rename_i v hv'
   obtain⟨y,hy,r⟩:=hall.get _ _ hv'
   exact Yield.pure h (x:=y) (by simp[execOp,hv,Instr.extract,hy]) (RdS.of_a r)
  ·trivial
 ·trivial
def zc9 (P:Program) (t:TypeId) (x:V) (f:Nat):R:=
 match fldT P t f,x with
 |some (off,_,_),.ptr id o=> .ok (.ptr id (o+off))
 |some (off,_,_),.elp cs o=> .ok (.elp cs (o+off))
 |some (off,_,_),.lsp id s n k j=> .ok (.lsp id s n k (j+off))
 |_,_=> .fail
theorem zN2 {t:TypeId} {f off s:Nat} {b:Bool} (h:fldT P t f=some (off,s,b)): ∃fs fd,P.underlying t=some (.struct fs)∧fs[f]? =some fd∧fd.offset=off∧szT P fd.type=some s∧aggT P fd.type=some b∧s≠0:=by
 unfold fldT at h
 split at h
 ·rename_i fs hu
  cases hf:fs[f]? with
  |none=>simp[hf]at h
  |some fd=>
   simp only[hf,Option.bind_some]at h
   cases hs:szT P fd.type with
   |none=>simp[hs]at h
   |some s'=>
    simp only[hs,Option.bind_some]at h
    cases hb:aggT P fd.type with
    |none=>simp[hb]at h
    |some b'=>
     simp only[hb,Option.bind_some]at h
     by_cases h0:s'=0
     ·simp[h0]at h
     ·simp[h0]at h
      obtain⟨rfl,rfl,rfl⟩:=h
      exact⟨fs,fd,hu,hf,rfl,hs,hb,h0⟩
 ·simp at h
theorem yi9 {dst:Option Tmp} {ty:TypeId} {pos:String} {aft:Array Edge} {g:Option (Nat×Bool)} (t:TypeId) (x:Operand) (f:Nat) (h:Sim c nt e σ a w L β):
  ROk (zc9 P t (zF e x) f) σ (Yield P c ⟨dst,.fieldAddr t x f,ty,pos,aft,g⟩ a w L σ β):=by
 have hx:=h.eval x
 have run: ∀{off s:Nat} {b:Bool} {bl o:Nat},fldT P t f=some (off,s,b)→a.eval x= .pointer (some ⟨bl,o,none⟩)→(execOp a.eval ⟨dst,.fieldAddr t x f,ty,pos,aft,g⟩).run P w= .ok (.value (.pointer (some ⟨bl,o+off,none⟩))) w:=by
  intro off s b bl o hf hv
  obtain⟨fs,fd,hu,hfd,rfl,hs,hb,h0⟩:=zN2 hf
  simp[execOp,hv,Instr.fieldAt,run_underlying hu,hfd,Instr.sureAddr,fieldPlace,wH hs,h0,xP]
 unfold zc9
 split
 ·rename_i off s b id o hf h1
  rw[h1]at hx
  obtain⟨bl,hb,hv⟩:=hx
  exact Yield.pure h (run hf hv) ⟨bl,hb,rfl⟩
 ·rename_i off s b cs o hf h1
  rw[h1]at hx
  obtain⟨bl,o',c',hv,hl,hc⟩:=hx
  exact Yield.pure h (run hf hv) ⟨bl,o',c',by rw[Nat.add_assoc],hl,hc⟩
 ·rename_i off s b id s' n k j hf h1
  rw[h1]at hx
  obtain⟨bl,o',hv,hc⟩:=hx
  refine Yield.pure h (run hf hv) ⟨bl,o'+off,rfl, ?_⟩
  rcases hc with hd|⟨rows,hσ,hn,hb⟩
  ·exact .inl hd
  ·refine .inr ⟨rows,hσ,hn,fun q1 q2=> ?_⟩
   obtain⟨c0,h2,h3⟩:=hb q1 q2
   exact⟨c0,h2,by rw[h3,Nat.add_assoc]⟩
 ·trivial
end
end Go.Vx
