/-
  Rules of the walk for maps: an entry that is laid for `m[k] op= v`, looked at and laid in regions whose order is open.
  No condition: a library text; nothing of the program is named.
-/
import Derived.Test.YtefbicjgbaaieaaGreatQAG
import Derived.Test.YtefbicjgbaaieaaGreatQAH
set_option maxHeartbeats 8000000
namespace Go.Vx
open Go
variable{P:Program}{σ:St}{e:Env}{σ':St}{l:List V}{nt:Nat}{d:Option Tmp}{K:KT}{op:Op}{ms:List Nat}{c:Ctx}{H:FuncId->List Nat}
def yI(b:Bool):R->Prop |.need p _=>b=true->p|.needst p _ _=>b=true->p|_=>True
def uniB(s:Nat)(rows:List (List V)):Bool:=rows.all λr=>r.length==s
theorem zo9{s:Nat}{rows:List (List V)}(h:uniB s rows=true):uni s rows:=λr hr=>by have:=Af.1 h r hr;simpa using this
def xq7:List V->Bool |[.int .u8 _]=>true|_=>false
theorem xq8{rows:List (List V)}(h:rows.all xq7=true):zR2 rows:=λr hr=>by
 have:=Af.1 h r hr;unfold xq7 at this;split at this;.exact⟨_,rfl⟩
 .cases this
def yb4(op:BinOp)(y:Int):Bool:=match op with |.quo|.rem=>decide (y≠0)|.shl|.shr=>decide (0<=y)|_=>true
def yC1(op:BinOp)(x y:List UInt8):Bool:=match op with |.add=>decide (x.length+y.length<=9223372036854775807)|_=>true
def binB(op:BinOp)(x y:V):Bool:=match x,y with |.int _ _,.int _ b=>yb4 op b|.str a,.str b=>yC1 op a b|_,_=>true
theorem yI9(op:BinOp)(k:IntKind)(x y:Int):yI (yb4 op y) (zO3 op k x y):=by cases op<;>simp[zO3,yb4,yI]
theorem yO3(op:BinOp)(x y:List UInt8):yI (yC1 op x y) (zP7 op x y):=by cases op<;>simp[zP7,yC1,yI]
theorem xq2(op:BinOp)(ek:Nat)(es:Option (List Pk))(x y:V):yI (binB op x y) (zt5 op ek es x y):=by
 unfold zt5;split
 .simp only[binB];split;.exact yI9 ..
  .cases op<;>simp[yb4,yI]
 .exact yO3 ..
 all_goals(repeat' split)<;>trivial
theorem yT5(op:BinOp)(ek:Nat)(x:V)(b:Bool):yI b (zu3 op ek x):=by unfold zu3 yK8;(repeat' split)<;>trivial
def yf9(sl:Option Nat)(ar:Option (Nat×Nat×Bool))(x i:V):Bool:=match x,i with |.sl _ rows,.int _ k=>(match sl with|some s=>decide (0<=k/\k<rows.length/\(rows.getD k.toNat []).length=s)|none=>true)|.ptr _ _,.int _ k=>(match ar with|some (n,_,_)=>decide (0<=k/\k<n)|none=>true)|.elp _ _,.int _ k=>(match ar with|some (n,_,_)=>decide (0<=k/\k<n)|none=>true)|.lsv _ _ _ _ m,.int _ k=>decide (0<=k/\k<m)|.bsv _ _ _ n,.int _ k=>decide (0<=k/\k<n)|_,_=>true
theorem yy5(sl:Option Nat)(ar:Option (Nat×Nat×Bool))(x i:V):yI (yf9 sl ar x i) (zj6 sl ar x i):=by
 unfold zj6;split;all_goals first|trivial|simp only[yf9]
 all_goals split<;>first|trivial|simp only[yI,decide_eq_true_eq,imp_self]
def idxB(x i:V)(ar:Option (Nat×Nat×Bool)):Bool:=match x,i with |.str b,.int _ k=>decide (0<=k/\k<b.length)|.agg cs,.int _ k=>(match ar with|some (n,s,false)=>decide (0<=k/\k<n/\(k.toNat*s)<cs.length)|_=>true)|_,_=>true
theorem xv6(x i:V)(str:Bool)(ar:Option (Nat×Nat×Bool)):yI (idxB x i ar) (zQ6 x i str ar):=by
 unfold zQ6;split;.simp only[idxB];split<;>first|trivial|simp only[yI,decide_eq_true_eq,imp_self]
 .split;.simp only[idxB,yI,decide_eq_true_eq,imp_self]
  .trivial
 .trivial
def yj6(es:Option Nat)(x:V)(lo hi:Option V):Bool:=match x with |.lsv _ s n l0 m=>(match bnd lo 0,bnd hi m,es with|some l,some h,some z=>decide (0<=l/\l<=h/\(h<=m∨(l0:Int)+h<=n)/\z=s)|_,_,_=>true)|.str s=>(match bnd lo 0,bnd hi s.length with|some l,some h=>decide (0<=l/\l<=h/\h<=s.length)|_,_=>true)|.sl _ rows=>(match bnd lo 0,bnd hi rows.length,es with|some l,some h,some z=>decide (0<=l/\l<=h/\h<=rows.length)&&uniB z rows|_,_,_=>true)|_=>true
theorem yW3(ar:Option (Nat×Nat×Bool))(k:Nat)(es:Option Nat)(x:V)(lo hi:Option V):yI (yj6 es x lo hi) (zn9 ar k es x lo hi):=by
 unfold zn9;split
 .split
  .rename_i h1 h2;split;.simp only[yj6,h1,h2,yI,decide_eq_true_eq,imp_self]
   .trivial
  .trivial
 .split<;>trivial
 .split
  .rename_i h1 h2;split;.simp only[yj6,h1,h2,yI,decide_eq_true_eq,imp_self]
   .trivial
  .trivial
 .split
  .rename_i h1 h2;split;.simp only[yj6,h1,h2,yI,A6,decide_eq_true_eq];exactλh=>⟨h.1.1,h.1.2.1,h.1.2.2,zo9 h.2⟩
   .trivial
  .trivial
 .trivial
def yc7(es:Option Nat)(x lo hi mx:V):Bool:=match x,lo,hi,mx,es with |.sl _ rows,.int _ l,.int _ h,.int _ m,some z=>decide (0<=l/\l<=h/\h<=rows.length/\m=h)&&uniB z rows|.lsv _ s _ _ n,.int _ l,.int _ h,.int _ m,some z=>decide (0<=l/\l<=h/\h<=m/\m<=n/\z=s)|_,_,_,_,_=>true
theorem yN9(es:Option Nat)(x lo hi mx:V):yI (yc7 es x lo hi mx) (zr2 es x lo hi mx):=by
 unfold zr2;split;.simp only[yc7,yI,A6,decide_eq_true_eq];exactλh=>⟨h.1.1,h.1.2.1,h.1.2.2.1,h.1.2.2.2,zo9 h.2⟩
 .simp only[yc7,yI,decide_eq_true_eq,imp_self]
 .trivial
def xR1(x:V):Bool:=match x with |.sl _ rows=>rows.all xq7|_=>true
theorem xh3(ks kd:Option Kd)(x:V):yI (xR1 x) (zD6 ks kd x):=by
 unfold zD6;split;.split<;>trivial
 .split<;>trivial
 .split<;>trivial
 .split;.exact xq8
  .trivial
 .trivial
def yK0(el:Option (Nat×Nat))(l m:V):Bool:=match el,l,m with |some (_,by'),.int .i64 n,.int .i64 k=>decide (0<=n/\n<=k/\k.toNat*by'<=140737488355328)|_,_,_=>false
theorem xj4(el:Option (Nat×Nat))(zs:Option (List V))(σ:St)(l m:V):yI (yK0 el l m) (zD8 el zs σ l m):=by
 unfold zD8;split;.simp only[yK0,yI,decide_eq_true_eq,imp_self]
 .trivial
theorem yT1(el:Option (Nat×Nat))(zs:Option (List V))(σ:St)(l m:V):yI (yK0 el l m) (zu2 el zs σ l m):=by
 unfold zu2;split;.simp only[yK0,yI,decide_eq_true_eq,imp_self]
 .trivial
def yR3(sl:Option Nat)(σ:St)(x:V):Bool:=match x with |.lsv id s n lo m=>(match σ[id]?with|some (.lst rows s')=>decide (sl=some s/\s'=s/\rows.length=n/\lo+m<=n)|_=>true)|_=>true
theorem yR4(sl:Option Nat)(zs:Option (List V))(σ:St)(x:V):yI (yR3 sl σ x) (zu1 sl zs σ x):=by
 unfold zu1;split
 .split;.rename_i h1;simp only[yR3,h1,yI,decide_eq_true_eq,imp_self]
  .trivial
 .trivial
def srcB(σ:St):V->Bool |.lsv id s n lo m=>(match σ[id]?with|some (.lst rows s')=>decide (s'=s/\rows.length=n/\lo+m<=n)&&xQ ((rows.drop lo).take m)|_=>false)|_=>true
theorem zS7{y:V}(h:srcB σ y=true):zo7 σ y:=by
 unfold zo7;split
 .simp only[srcB]at h;split at h;.rename_i h1;rw[h1];simp only[A6,decide_eq_true_eq]at h;exact⟨h.1.1,h.1.2.1,h.1.2.2,h.2⟩
  .cases h
 .trivial
def zK4(el:Option (Nat×Nat))(k2:Nat)(σ:St)(x y:V):Bool:=match el,zF6 k2 σ y with |some (s,by'),some r2=>(match x with |.sl .full r1=>srcB σ y&&decide ((r1.length+r2.length)*by'<=140737488355328)&&uniB s r1&&uniB s r2|.sl (.app id) r1=>(match σ[id]?with |some (.app n s')=>srcB σ y&&decide (r1.length=n/\s'=s/\(r1.length+r2.length)*by'<=140737488355328)&&uniB s r2|_=>true)|.lsv id s1 n lo m=>(match σ[id]?with |some (.lst rows s')=>srcB σ y&&decide (s1=s/\s'=s/\rows.length=n)&&uniB s r2&&(decide (lo+m+r2.length<=n)||decide (lo=0/\m=n/\(n+r2.length)*by'<=140737488355328))|_=>true)|_=>true)|_,_=>true
theorem yE5(el:Option (Nat×Nat))(k2:Nat)(σ:St)(x y:V):yI (zK4 el k2 σ x y) (zi3 el k2 σ x y):=by
 unfold zi3;split
 .rename_i h2;split;.simp only[zK4,h2,yI,A6,decide_eq_true_eq];exactλh=>⟨zS7 h.1.1.1,h.1.1.2,zo9 h.1.2,zo9 h.2⟩
  .split;.rename_i h3;simp only[zK4,h2,h3,yI,A6,decide_eq_true_eq];exactλh=>⟨zS7 h.1.1,h.1.2.1,h.1.2.2.1,h.1.2.2.2,zo9 h.2⟩
   .trivial
  .split
   .rename_i h3;split;.simp only[zK4,h2,h3,yI,A6,decide_eq_true_eq];exactλh=>⟨zS7 h.1.1.1,h.1.1.2.1,h.1.1.2.2.1,h.1.1.2.2.2,zo9 h.1.2⟩
    .rename_i aa;simp only[zK4,h2,h3,yI,A6,Bv,decide_eq_true_eq];exactλh=>⟨zS7 h.1.1.1,h.1.1.2.1,h.1.1.2.2.1,h.1.1.2.2.2,zo9 h.1.2,(h.2.resolve_left aa)⟩
   .trivial
  .trivial
 .trivial
def xC6(σ:St):V->Bool |.lsv id s n lo m=>(match σ[id]?with|some (.lst rows s')=>decide (s'=s/\rows.length=n/\lo+m<=n)|_=>false)|_=>true
theorem yO1{y:V}(h:xC6 σ y=true):zx0 σ y:=by
 unfold zx0;split
 .simp only[xC6]at h;split at h;.rename_i h1;rw[h1];exact of_decide_eq_true h
  .cases h
 .trivial
def zG9(el:Option (Nat×Nat))(k2:Nat)(σ:St)(x y:V):Bool:=match x with |.lsv id s1 n lo m=>(match el,zJ2 k2 σ y with |some (s,by'),some r2=>(match σ[id]?with |some (.lst rows s')=>xC6 σ y&&decide (s1=s/\s'=s/\rows.length=n)&&uniB s r2&&(decide (lo+m+r2.length<=n)||decide (lo=0/\m=n/\(n+r2.length)*by'<=140737488355328))|_=>true)|_,_=>true)|x=>match el,zF6 k2 σ y with
 |some (s,by'),some r2=>(match x with |.sl .full r1=>srcB σ y&&decide ((r1.length+r2.length)*by'<=140737488355328)&&uniB s r1&&uniB s r2&&(!r2.isEmpty||r1.isEmpty)|_=>true)|_,_=>true
theorem yv9(el:Option (Nat×Nat))(k2:Nat)(σ:St)(x y:V):yI (zG9 el k2 σ x y) (zf1 el k2 σ x y):=by
 unfold zf1;split
 .split
  .rename_i h2;split
   .rename_i h3;split;.simp only[zG9,h2,h3,yI,A6,decide_eq_true_eq];exactλh=>⟨yO1 h.1.1.1,h.1.1.2.1,h.1.1.2.2.1,h.1.1.2.2.2,zo9 h.1.2⟩
    .rename_i aa;simp only[zG9,h2,h3,yI,A6,Bv,decide_eq_true_eq];exactλh=>⟨yO1 h.1.1.1,h.1.1.2.1,h.1.1.2.2.1,h.1.1.2.2.2,zo9 h.1.2,(h.2.resolve_left aa)⟩
   .trivial
  .trivial
 .split
  .rename_i h2;split;.simp only[zG9,h2,yI,A6,decide_eq_true_eq];refineλh=>⟨zS7 h.1.1.1.1,h.1.1.1.2,zo9 h.1.1.2,zo9 h.1.2,λe=>?_⟩;have:=h.2;rw[e]at this;simpa using this
   .trivial
  .trivial
def zq9(L:Bool)(es:Option Nat)(len:Nat)(parts:List (Nat×V)):Bool:=match es with |some s=>(parts.all λp=>(L||zN3 p.2)&&(xH p.2).length==s)&&decide (len*s<=16777216/\0<s)|none=>true
theorem ya5(es:Option Nat)(len:Nat)(parts:List (Nat×V)):yI (zq9 false es len parts) (zb5 es len parts):=by
 unfold zb5;split
 .split;.simp only[zq9,yI,A6,decide_eq_true_eq,Af,C8,beq_iff_eq];exactλh=>⟨λp hp=>h.1 p hp,h.2⟩
  .trivial
 .trivial
theorem zU4(es:Option Nat)(len:Nat)(σ:St)(parts:List (Nat×V)):yI (zq9 true es len parts) (za3 es len σ parts):=by
 unfold za3;split
 .split;.simp only[zq9,yI,A6,decide_eq_true_eq,Af,De,beq_iff_eq];exactλh=>⟨λp hp=>(h.1 p hp).2,h.2⟩
  .trivial
 .trivial
def yh4(P:Program)(L:Bool)(e:Env)(σ:St):Op->Bool |.buildSlice t n ps=>zq9 L ((elT P t).map (·.1)) n (ps.toList.map λp=>(p.1,zF e p.2))|.binOp op _ x y _=>binB op (zF e x) (zF e y)|.convert _ _ x=>xR1 (zF e x)|.slice t x lo hi none=>if L then false else yj6 ((elT P t).map (·.1)) (zF e x) (lo.map (zF e)) (hi.map (zF e))|.slice t x (some lo) (some hi) (some mx)=>yc7 ((elT P t).map (·.1)) (zF e x) (zF e lo) (zF e hi) (zF e mx)|.indexAddr t x i=>yf9 (slcT P t) (arrT P t) (zF e x) (zF e i)|.index t x i=>idxB (zF e x) (zF e i) (arrT P t)|.makeSlice t l m=>yK0 (elT P t) (zF e l) (zF e m)|.call ⟨.builtin .append,⟨[x,y]⟩,⟨[t,t']⟩⟩=>if L then zG9 (elT P t) (lenT P t') σ (zF e x) (zF e y)else zK4 (elT P t) (lenT P t') σ (zF e x) (zF e y)|.call ⟨.builtin .clear,⟨[x]⟩,⟨[t]⟩⟩=>yR3 ((elT P t).map (·.1)) σ (zF e x)|_=>true
def wb8:R->Bool|.need _ _|.needst _ _ _=>false|_=>true
theorem yQ{b:Bool}{r:R}(h:wb8 r=true):yI b r:=by cases r<;>first|trivial|cases h
theorem zV0(op:Op):yI (yh4 P false e σ op) (evOp P e σ op):=by
 unfold evOp;split;.trivial
 .trivial
 .refine yQ ?_;unfold zH6;(repeat' split)<;>rfl
 .refine yQ ?_;unfold zm0;(repeat' split)<;>rfl
 .refine yQ ?_;unfold zQ5;(repeat' split)<;>rfl
 .refine yQ ?_;unfold zx7;(repeat' split)<;>rfl
 .exact ya5 ..
 .refine yQ ?_;unfold zi4;(repeat' split)<;>first|rfl|(unfold zm1;(repeat' split)<;>rfl)
 .refine yQ ?_;unfold zu4;(repeat' split)<;>rfl
 .refine yQ ?_;unfold zY4;(repeat' split)<;>rfl
 .split;.exact yT5 ..
  .split;.refine yQ ?_;unfold zr1;(repeat' split)<;>rfl
   .exact xq2 ..
 .refine yQ ?_;unfold evUn;(repeat' split)<;>rfl
 .exact xh3 ..
 .exact yW3 ..
 .exact yN9 ..
 .refine yQ ?_;unfold zf6;(repeat' split)<;>rfl
 .refine yQ ?_;unfold zx9;(repeat' split)<;>rfl
 .exact yy5 ..
 .exact xv6 ..
 .refine yQ ?_;unfold zn0;(repeat' split)<;>rfl
 .refine yQ ?_;unfold zH5;(repeat' split)<;>rfl
 .exact xj4 ..
 .refine yQ ?_;unfold zY3;(repeat' split)<;>rfl
 .exact yE5 ..
 .exact yR4 ..
 .refine yQ ?_;unfold zA9;(repeat' split)<;>rfl
 .refine yQ ?_;unfold zA9;(repeat' split)<;>rfl
 .refine yQ ?_;unfold zr0;(repeat' split)<;>rfl
 .refine yQ ?_;unfold zn1;(repeat' split)<;>rfl
 .refine yQ ?_;unfold xY;(repeat' split)<;>rfl
 .refine yQ ?_;unfold xS;(repeat' split)<;>rfl
 .refine yQ ?_;unfold xS;(repeat' split)<;>rfl
 .refine yQ ?_;unfold wC;(repeat' split)<;>rfl
 .refine yQ ?_;unfold xO;(repeat' split)<;>rfl
 .refine yQ ?_;unfold zy0;(repeat' split)<;>rfl
 .refine yQ ?_;unfold zj5;(repeat' split)<;>rfl
 .refine yQ ?_;unfold zY2;(repeat' split)<;>rfl
 .refine yQ ?_;unfold zi5;(repeat' split)<;>rfl
 .trivial
theorem yR8(op:Op):yI (yh4 P false e σ op&&yh4 P true e σ op) (za5 P e σ op):=by
 have weak:∀{b c:Bool}{r:R},yI b r->yI (c&&b) r:=by intro b c r h;cases r with |need p v=>exactλq=>h (by simp at q;exact q.2)|needst p v s=>exactλq=>h (by simp at q;exact q.2)|_=>trivial
 have aa:∀{b c:Bool}{r:R},yI b r->yI (b&&c) r:=by intro b c r h;cases r with |need p v=>exactλq=>h (by simp at q;exact q.1)|needst p v s=>exactλq=>h (by simp at q;exact q.1)|_=>trivial
 unfold za5;split;.exact weak (zU4 ..)
 .exact weak (yT1 ..)
 .refine yQ ?_;unfold zx8;(repeat' split)<;>rfl
 .refine weak (b:=false) ?_;unfold zr3;(repeat' split)<;>first|trivial|exactλq=>by cases q
 .exact weak (yv9 ..)
 .refine yQ ?_;unfold zi5;(repeat' split)<;>rfl
 .exact aa (zV0 op)
def xopR(b:Bool)(σ:St):R->Option (V×St) |.ok v=>some (v,σ)|.need _ v=>if b then some (v,σ)else none|.st v σ'=>some (v,σ')|.needst _ v σ'=>if b then some (v,σ')else none|_=>none
def xop(P:Program)(d:Option Tmp)(e:Env)(σ:St)(op:Op):Option (V×St):=if ze4 e d then xopR (yh4 P false e σ op&&yh4 P true e σ op) σ (za5 P e σ op)else xopR (yh4 P false e σ op) σ (evOp P e σ op)
theorem yl5{b:Bool}{r:R}{v:V}(hn:yI b r)(h:xopR b σ r=some (v,σ'))(hk:vput nt d v K e σ'):vfin nt d r K e σ:=by cases r with
 |fail=>cases h|ok v'=>cases h;exact hk|need p v'=>
  simp only[xopR]at h;split at h;.rename_i hb;cases h;exact⟨hn hb,hk⟩
  .cases h|st v' s=>cases h;exact hk|needst p v' s=>
  simp only[xopR]at h;split at h;.rename_i hb;cases h;exact⟨hn hb,hk⟩
  .cases h|all f=>cases h|any l=>cases h
theorem xQ2{v:V}(h:xop P d e σ op=some (v,σ'))(hk:vput nt d v K e σ'):vfin nt d (xT P d e σ op) K e σ:=by
 unfold xop at h;unfold xT;split at h;.rename_i hh;rw[if_pos hh];exact yl5 (yR8 op) h hk
 .rename_i hh;rw[if_neg hh];exact yl5 (zV0 op) h hk
def envX(ms:List Nat)(l:List V):Env:=λt=>if t<100000then l.getD t .u else if ms.contains (t-100000)then .tup []else .u
theorem xs9{t:Nat}{v:V}(h:t<l.length)(hl:l.length<=100000):upd (envX ms l) t v=envX ms (l.set t v):=by
 funext k;simp only[upd,envX];by_cases hk:k=t;.subst hk;rw[if_pos rfl,if_pos om,A7,Aj h];rfl
 .rw[if_neg hk];split;.rw[A7,A7,Ad (λq=>hk q.symm)]
  .rfl
def xput(d:Option Tmp)(v:V)(l:List V):Option (List V):=match d with |some t=>if t<l.length then some (l.set t v)else none|none=>some l
theorem yd7{v:V}{l':List V}(h:xput d v l=some l')(hl:l.length<=100000):l'.length=l.length/\∀(K:KT)(σ:St),K (envX ms l') σ->vput l.length d v K (envX ms l) σ:=by
 unfold xput at h;unfold vput;split at h
 .split at h;.rename_i ht;cases h;refine⟨sm,λK σ hk=>⟨ht,?_⟩⟩;rw[xs9 ht hl];exact hk
  .cases h
 .cases h;exact⟨rfl,λK σ hk=>hk⟩
def xgd(g:Option (Nat×Bool))(ops:List Oper)(e:Env):Option Bool:=match g with |none=>some true|some (j,want)=>(match gdst ops j with|some t=>(match e t with|.bool b=>some (b==want)|.tup []=>some false|_=>none)|none=>none)
theorem yD6{g:Option (Nat×Bool)}{ops:List Oper}{A B:Prop}{r:Bool}(h:xgd g ops e=some r)(ha:r=true->A)(hb:r=false->B):vgd g ops e A B:=by
 unfold xgd at h;unfold vgd;split at h;.cases h;exact ha rfl
 .split at h
  .rename_i t ht;simp only[ht];unfold vgrd;split at h;.rename_i b he;cases h;rw[he];exact⟨λq=>ha (by simp[q]),λq=>hb (by simpa using q)⟩
   .rename_i he;cases h;rw[he];exact hb rfl
   .cases h
  .cases h
abbrev zk2:=V->List V->St->Option (V×St)
def zs7(P:Program)(call:zk2):Prop:=∀fv az σ v σ',call fv az σ=some (v,σ')->∀c,VC P c fv az σ (λr s=>r=v/\s=σ')
def xopc(P:Program)(call:zk2)(d:Option Tmp)(e:Env)(σ:St)(op:Op):Option (V×St):=match op with |.call ⟨.value f,args,_⟩=>call (zF e f) (args.toList.map (zF e)) σ|op=>xop P d e σ op
theorem xQ3{call:zk2}(hc:zs7 P call){v:V}(h:xopc P call d e σ op=some (v,σ'))(hk:vput nt d v K e σ'):vop P c nt d op K e σ:=by
 unfold xopc at h;unfold vop;split at h;.refine(hc _ _ _ _ _ h c).mono ?_;rintro r s⟨rfl,rfl⟩;exact hk
 .rename_i aa;split;.exact absurd rfl (aa _ _ _)
  .exact xQ2 h hk
def yQ5(P:Program)(call:zk2)(ms:List Nat)(ops:List Oper):List Oper->List V->St->Option (List V×St) |[],l,σ=>some (l,σ)|o::rest,l,σ=>match xgd o.guard ops (envX ms l)with
  |none=>none|some true=>(match xopc P call o.dst (envX ms l) σ o.op with |some (v,σ')=>(match xput o.dst v l with|some l'=>yQ5 P call ms ops rest l' σ'|none=>none)|none=>none)|some false=>(match xput o.dst (.tup []) l with|some l'=>yQ5 P call ms ops rest l' σ|none=>none)
theorem zU1{P:Program}{call:zk2}(hc:zs7 P call){ms:List Nat}{ops:List Oper}{c:Ctx}:∀(rest:List Oper)(l:List V)(σ:St)(l':List V)(σ':St),yQ5 P call ms ops rest l σ=some (l',σ')->l.length<=100000->l'.length=l.length/\∀K:KT,K (envX ms l') σ'->vrun P c l.length ops rest K (envX ms l) σ
 |[],l,σ,l',σ',h,hl=>by cases h;exact⟨rfl,λK hk=>hk⟩|o::rest,l,σ,l',σ',h,hl=>by
  unfold yQ5 at h;split at h;.cases h
  .rename_i hg;split at h
   .rename_i v s1 ho;split at h;.rename_i l1 hp;obtain⟨e1,e2⟩:=yd7 (ms:=ms) hp hl;obtain⟨e3,e4⟩:=zU1 hc (c:=c) rest l1 s1 l' σ' h om;refine⟨om,λK hk=>?_⟩;refine yD6 hg (λ_=>?_) (λq=>by cases q);refine xQ3 hc ho (e2 _ _ ?_);have:=e4 K hk;rwa[e1]at this
    .cases h
   .cases h
  .rename_i hg;split at h;.rename_i l1 hp;obtain⟨e1,e2⟩:=yd7 (ms:=ms) hp hl;obtain⟨e3,e4⟩:=zU1 hc (c:=c) rest l1 σ l' σ' h om;refine⟨om,λK hk=>?_⟩;refine yD6 hg (λq=>by cases q) (λ_=>?_);refine e2 _ _ ?_;have:=e4 K hk;rwa[e1]at this
   .cases h
def notL:Op->Bool|.buildSlice ..|.makeSlice ..|.convert ..|.call _|.next ..|.slice ..=>false|_=>true
theorem xL8(h:notL op=true):∀e σ,za5 P e σ op=evOp P e σ op:=by intro e σ;cases op<;>first|rfl|cases h
def xb9(n0:Kp)(e:Env):Op->Bool |.load _ x=>imm n0 (zF e x)|_=>false
def wb3:Op->Bool|.alloc _|.box ..=>true|_=>false
def xT1(P:Program)(n0:Kp)(k:Nat)(d:Option Tmp)(e:Env)(σ:St)(op:Op):Bool:=(!ze4 e d||notL op)&&(k !=0||ze6 op==0)&&(k !=1||xb9 n0 e op)&&(!isSt (evOp P e σ op)||decide (3<=k))&&(k==4||(k==3&&wb3 op)||!isSt (evOp P e σ op))
def xtop(P:Program)(call:zk2)(n0:Kp)(k:Nat)(d:Option Tmp)(e:Env)(σ:St)(op:Op):Option (V×St):=match op with |.call ⟨.value f,args,_⟩=>if k=0then(match call (zF e f) (args.toList.map (zF e)) []with|some (v,_)=>if noS v&&noS (zF e f)&&(args.toList.map (zF e)).all noS then some (v,σ)else none|none=>none)else if k=4then(match call (zF e f) (args.toList.map (zF e)) σ with|some (v,σ')=>if σ.length<=σ'.length then some (v,σ')else none|none=>none)else none|op=>if xT1 P n0 k d e σ op then xopR (yh4 P false e σ op) σ (evOp P e σ op)else none
def zv2(P:Program)(call:zk2):Prop:=∀fv az v σ',call fv az []=some (v,σ')->noS v=true->noS fv=true->az.all noS=true->∀c s,VC P c fv az s (λr s'=>r=v/\s'=s)
theorem xQ4{call:zk2}(hc:zs7 P call)(hp:zv2 P call){n0:Kp}{k:Nat}{v:V}(h:xtop P call n0 k d e σ op=some (v,σ'))(hk:vput nt d v K e σ'):vtop P c nt n0 k d op K e σ:=by
 unfold xtop at h;unfold vtop;split at h
 .split at h
  .rename_i ab;split at h
   .rename_i v' s' aa;split at h;.rename_i hn;cases h;simp only[A6]at hn;subst ab;refine⟨v,σ,?_,λ_=>rfl,λ_=>KeepN.refl,A3 _,hk⟩;rw[if_pos rfl];exactλs=>hp _ _ _ _ aa hn.1.1 hn.1.2 hn.2 c s
    .cases h
   .cases h
  .split at h
   .rename_i ab ad;split at h
    .rename_i v' s' aa;split at h;.rename_i hle;cases h;subst ad;refine⟨v,σ',?_,λq=>om,λq=>om,hle,hk⟩;rw[if_neg dc,if_neg dc];exact hc _ _ _ _ _ aa c
     .cases h
    .cases h
   .cases h
 .rename_i ae;split;.exact absurd rfl (ae _ _ _)
  .split at h
   .rename_i ht;simp only[xT1,A6,Bv,Cz,bne_iff_ne,beq_iff_eq,decide_eq_true_eq]at ht;obtain⟨⟨⟨⟨t1,t2⟩,t3⟩,t4⟩,t5⟩:=ht;have hh:hok P d e op:=by
     rcases t1 with t1|t1;.exact .inl t1
     .exact .inr (xL8 t1)
    rw[zp6 hh];refine⟨λ_=>hh,?_,λq=>t2.resolve_left (λw=>w q),λq=>?_,λq=>t4.resolve_left (by rw[q];simp),?_,yl5 (zV0 op) h hk⟩;.cases hr:evOp P e σ op with |all f=>rw[hr]at h;cases h|any l=>rw[hr]at h;cases h|_=>rfl
    .have:=t3.resolve_left (λw=>w q);unfold xb9 at this;split at this;.exact .inl ⟨_,_,rfl,this⟩
     .cases this
    .rcases t5 with(t5|t5)|t5;.subst t5;exact zW5
     .obtain⟨t5,t6⟩:=t5;subst t5;cases op with
      |alloc t=>simp only[evOp];unfold zm0;split<;>first|trivial|exact⟨sm,λ_=>.inl ⟨_,rfl⟩⟩
      |box t x=>simp only[evOp];unfold zQ5;split<;>first|trivial|exact⟨sm,λ_=>.inl ⟨_,rfl⟩⟩
      |_=>cases t6
     .exact zs1 t5
   .cases h
def xtr(P:Program)(call:zk2)(n0:Kp)(ms:List Nat)(ops:List Oper)(q:List (Nat×Nat)):Nat->List Oper->List V->St->Option (List V×St) |_,[],l,σ=>some (l,σ)|i,o::rest,l,σ=>match xgd o.guard ops (envX ms l)with
  |none=>none|some true=>(match xtop P call n0 (zT q i o) o.dst (envX ms l) σ o.op with |some (v,σ')=>(match xput o.dst v l with|some l'=>xtr P call n0 ms ops q (i+1) rest l' σ'|none=>none)|none=>none)|some false=>(match xput o.dst (.tup []) l with|some l'=>xtr P call n0 ms ops q (i+1) rest l' σ|none=>none)
theorem yY1{P:Program}{call:zk2}(hc:zs7 P call)(aa:zv2 P call){n0:Kp}{ms:List Nat}{ops:List Oper}{q:List (Nat×Nat)}{c:Ctx}:∀(rest:List Oper)(i:Nat)(l:List V)(σ:St)(l':List V)(σ':St),xtr P call n0 ms ops q i rest l σ=some (l',σ')->l.length<=100000->l'.length=l.length/\∀K:KT,K (envX ms l') σ'->vtr P c l.length n0 ops q i rest K (envX ms l) σ
 |[],i,l,σ,l',σ',h,hl=>by cases h;exact⟨rfl,λK hk=>hk⟩|o::rest,i,l,σ,l',σ',h,hl=>by
  unfold xtr at h;split at h;.cases h
  .rename_i hg;split at h
   .rename_i v s1 ho;split at h;.rename_i l1 hp;obtain⟨e1,e2⟩:=yd7 (ms:=ms) hp hl;obtain⟨e3,e4⟩:=yY1 hc aa (c:=c) rest (i+1) l1 s1 l' σ' h om;refine⟨om,λK hk=>?_⟩;refine yD6 hg (λ_=>?_) (λq=>by cases q);refine xQ4 hc aa ho (e2 _ _ ?_);have:=e4 K hk;rwa[e1]at this
    .cases h
   .cases h
  .rename_i hg;split at h;.rename_i l1 hp;obtain⟨e1,e2⟩:=yd7 (ms:=ms) hp hl;obtain⟨e3,e4⟩:=yY1 hc aa (c:=c) rest (i+1) l1 σ l' σ' h om;refine⟨om,λK hk=>?_⟩;refine yD6 hg (λq=>by cases q) (λ_=>?_);refine e2 _ _ ?_;have:=e4 K hk;rwa[e1]at this
   .cases h
def yw2:Nat->List Oper->List (Nat×Nat) |_,[]=>[]|i,o::os=>(match o.op with|.call ⟨.value _,_,_⟩=>[(i,0)]|_=>[])++yw2 (i+1) os
def yj9:Nat->List Oper->List (Nat×Nat) |_,[]=>[]|i,o::os=>(match o.op with|.store ..=>[(i,4)]|.call ⟨.builtin .append,_,_⟩=>[(i,4)]|_=>[])++yj9 (i+1) os
def xS9:Nat->List Oper->List (Nat×Nat) |_,[]=>[]|i,o::os=>(match o.op with|.store ..=>[(i,4)]|.call ⟨.builtin .append,_,_⟩=>[(i,4)]|.call ⟨.value _,_,_⟩=>[(i,4)]|_=>[])++xS9 (i+1) os
def xF2:Nat->List Oper->List (Nat×Nat) |_,[]=>[]|i,o::os=>(match o.op with|.store ..=>[(i,4)]|.load ..=>[(i,4)]|.alloc _=>[(i,4)]|.call ⟨.builtin .append,_,_⟩=>[(i,4)]|.call ⟨.value _,_,_⟩=>[(i,4)]|_=>[])++xF2 (i+1) os
def xG1(ops:List Oper):List (List (Nat×Nat)):=[[],yw2 0 ops,yj9 0 ops,yw2 0 ops++yj9 0 ops,xS9 0 ops,xF2 0 ops]
def yD5(P:Program)(call:zk2)(ms:List Nat)(ops:List Oper)(l:List V)(σ:St):List (List (Nat×Nat))->Option (List V×St) |[]=>none|q::qs=>if zz8 ops q then(match xtr P call (Kp.pre σ.length) ms ops q 0 ops l σ with|some r=>some r|none=>yD5 P call ms ops l σ qs)else yD5 P call ms ops l σ qs
def xG2(P:Program)(call:zk2)(ms:List Nat)(ops:List Oper)(l:List V)(σ:St):Option (List V×St):=if zd2 ops then yD5 P call ms ops l σ (xG1 ops)else none
theorem yQ3{call:zk2}(hc:zs7 P call)(aa:zv2 P call)(hm:P.follows .mixedOrders=true){ops:List Oper}{id:Nat}{l':List V}(h:xG2 P call ms ops l σ=some (l',σ'))(hl:l.length<=100000):l'.length=l.length/\∀Q:QT,Q .normal (envX ms l') σ'->VW P c l.length (.region id ops.toArray true) Q (envX ms l) σ:=by
 unfold xG2 at h;split at h
 .rename_i he;have go:∀q,zz8 ops q=true->xtr P call (Kp.pre σ.length) ms ops q 0 ops l σ=some (l',σ')->l'.length=l.length/\∀Q:QT,Q .normal (envX ms l') σ'->VW P c l.length (.region id ops.toArray true) Q (envX ms l) σ:=by intro q hd hx;obtain⟨e1,e2⟩:=yY1 hc aa (c:=c) ops 0 l σ l' σ' hx hl;exact⟨e1,λQ hq=>yU q σ.length rfl hm (by rw[hd,he];rfl) (e2 (Q .normal) hq)⟩
  generalize xG1 ops=qs at h;induction qs with |nil=>cases h|cons q qs ih=>
   unfold yD5 at h;split at h
   .rename_i hd;split at h;.rename_i r hx;cases h;exact go _ hd hx
    .exact ih h
   .exact ih h
 .cases h
abbrev RunT:=List Nat->Code->List V->St->Option (Exit×List V×St)
def xR7:Exit->Bool|.normal|.ret=>true|_=>false
def zN7(P:Program)(H:FuncId->List Nat)(run:RunT):zk2:=λfv az σ=>match fv with |.fn f caps=>(match P.funcs[f]?with |some fn=>(match fn.body with |some code=>if decide ((az++caps).length<=fn.ntmps)&&decide (fn.ntmps<=100000)then(match run (H f) code ((az++caps)++List.replicate (fn.ntmps-(az++caps).length) .u) σ with |some (x,l',σ')=>if xR7 x&&decide (σ.length<=σ'.length)then(match retV P fn.results.toList (envX (H f) l') σ' with|some v=>some (v,σ')|none=>none)else none|none=>none)else none|none=>none)|none=>none)|_=>none
def orT(T call:zk2):zk2:=λfv az σ=>match T fv az σ with|some r=>some r|none=>call fv az σ
theorem xX2{T call:zk2}(hT:zs7 P T)(hc:zs7 P call):zs7 P (orT T call):=by
 intro fv az σ v σ' h c;unfold orT at h;split at h;.rename_i r hr;cases h;exact hT _ _ _ _ _ hr c
 .exact hc _ _ _ _ _ h c
theorem xz4{T call:zk2}(hT:∀fv az,T fv az []=none)(hc:zv2 P call):zv2 P (orT T call):=by intro fv az v σ' h;unfold orT at h;rw[hT]at h;exact hc fv az v σ' h
def noT:zk2:=fun _ _ _=>none
theorem xx9:zs7 P noT:=λ_ _ _ _ _ h=>by cases h
def zp5(P:Program)(T:zk2)(H:FuncId->List Nat)(run:RunT):RunT:=λms code l σ=>match code with
 |.skip=>some (.normal,l,σ)|.label _=>some (.normal,l,σ)|.exit id=>some (.exit id,l,σ)|.ret=>some (.ret,l,σ)|.seq x y=>(match run ms x l σ with |some (.normal,l',σ')=>run ms y l' σ'|r=>r)|.cond x t f=>(match zF (envX ms l) x with|.bool true=>run ms t l σ|.bool false=>run ms f l σ|_=>none)|.block id b=>(match run ms b l σ with |some (.exit id',l',σ')=>if id'=id then some (.normal,l',σ')else some (.exit id',l',σ')|r=>r)|.region _ ops draw=>if draw then(match xG2 P (orT T (zN7 P H run)) ms ops.toList l σ with|some (l',σ')=>some (.normal,l',σ')|none=>none)else(match yQ5 P (orT T (zN7 P H run)) ms ops.toList ops.toList l σ with|some (l',σ')=>some (.normal,l',σ')|none=>none)|.loop b=>(match run ms b l σ with |some (.normal,l',σ')=>run ms (.loop b) l' σ'|r=>r)|_=>none
def zK2(P:Program)(T:zk2)(H:FuncId->List Nat):Nat->RunT |0=>λ_ _ _ _=>none|n+1=>zp5 P T H (zK2 P T H n)
def xu0:Exit->Bool|.normal|.ret|.exit _=>true|_=>false
def yE2(P:Program)(run:RunT):Prop:=∀ms code l σ x l' σ',run ms code l σ=some (x,l',σ')->l.length<=100000->l'.length=l.length/\xu0 x=true/\∀(c:Ctx)(Q:QT),Q x (envX ms l') σ'->VW P c l.length code Q (envX ms l) σ
theorem xs8(hl:l.length<=100000)(n:Nat):envX [] (l++List.replicate n .u)=envA 0 l:=by
 funext t;have e1:=ye5 l 0 t;rw[Ab]at e1;rw[e1];unfold envX;by_cases ht:t<l.length;.rw[if_pos om,A7,A7,Aa ht]
 .have e2:l.getD t .u=.u:=by rw[A7,Bd om];rfl
  rw[e2];split;.rw[A7,Ai om,Ee];split<;>rfl
  .simp
theorem xh8{t:Nat}:upd (envX ms l) (100000+t) (.tup [])=envX (t::ms) l:=by
 funext k;unfold upd envX;by_cases hk:k=100000+t;.rw[if_pos hk,if_neg om,if_pos (by rw[hk];simp)]
 .rw[if_neg hk];by_cases h0:k<100000;.rw[if_pos h0,if_pos h0]
  .have h2:(k-100000==t)=false:=by simp;omega
   rw[if_neg h0,if_neg h0,Dt,h2,C8]
theorem VW.marks{code:Code}{Q:QT}(hn:nt<=100000)(ms:List Nat)(h:VW P c nt code Q (envX ms l) σ):VW P c nt code Q (envX [] l) σ:=by induction ms with |nil=>exact h|cons t ms ih=>refine ih ?_;have h2:=zp2 (P:=P) (c:=c) (nt:=nt) (Q:=Q) (e:=envX ms l) (σ:=σ) t (y:=code) hn;rw[xh8]at h2;exact h2 h
theorem zF4{k i:Nat}:ren (List.range k) k i=i:=by
 by_cases h:i<k;.exact zf3 h
 .rw[zs9 (by simp;omega)];simp;omega
theorem xl8{n0:Nat}(h:n0<=σ.length):Picks n0 (List.range σ.length) σ σ:=by refine⟨sm,C5,λi j o hi ho=>?_,λi hi=>by rw[Co om]⟩;obtain⟨h1,h2⟩:=A1.1 hi;simp at h1 h2;subst h2;rw[zr9 (λi=>zF4)];exact ho
theorem zt9{run:RunT}(hr:yE2 P run){f:FuncId}{caps az:List V}{v:V}(h:zN7 P H run (.fn f caps) az σ=some (v,σ')):VCalls P f (az++caps) σ (λr s=>r=v/\s=σ')/\(P.funcs[f]?.bind (·.body)).isSome=true/\(σ=[]->noS v=true->VCalls P f (az++caps) σ (λr s=>r=v/\s=[])):=by
 unfold zN7 at h;simp only at h;split at h
 .rename_i fn hf;split at h
  .rename_i code hb;split at h
   .rename_i hlen;simp only[A6,decide_eq_true_eq]at hlen;split at h
    .rename_i x l' s1 hx;split at h
     .rename_i aa;simp only[A6,decide_eq_true_eq]at aa;split at h
      .rename_i v' hv;cases h;have ab:((az++caps)++List.replicate (fn.ntmps-(az++caps).length) V.u).length=fn.ntmps:=by rw[B2,List.length_replicate];omega
       obtain⟨e1,e2,e3⟩:=hr _ _ _ _ _ _ _ hx om;have key:∀R:V->St->Prop,VRet σ.length R v σ'->VCalls P f (az++caps) σ R:=by intro R hR;refine VCalls.introW (rs:=fn.results.toList) σ.length hf rfl sm hb rfl hlen.1 λc _ _=>?_;rw[<-xs8 om (fn.ntmps-(az++caps).length)];refine VW.marks hlen.2 (H f) ?_;have:=e3 c (retQ P fn.results.toList σ.length R);rw[ab]at this;refine this ?_;have hq:∃v,retV P fn.results.toList (envX (H f) l') σ'=some v/\VRet σ.length R v σ':=⟨v,hv,hR⟩;cases x with |normal=>exact hq|ret=>exact hq|_=>simp[xR7]at aa
       refine⟨key _ ⟨v,σ',List.range σ'.length,σ',v,.refl _ _,xl8 aa.2,.inl (zz0 (λi=>zF4) v).symm,rfl,rfl⟩,?_,λh0 hn=>?_⟩;.rw[hf];show(fn.body).isSome=true;rw[hb];rfl
       .subst h0;refine key _ ⟨v,σ',[],[],v,.refl _ _,⟨rfl,D0,λi j o h=>by simp at h,λi h=>absurd h (Bg i)⟩,zD hn,rfl,rfl⟩
      .cases h
     .cases h
    .cases h
   .cases h
  .cases h
 .cases h
theorem xk1{s:St}(h:σ.length<=s.length):xC (List.range σ.length) σ s=s:=by
 have hid:yC (ren (List.range σ.length) σ.length)=λo=>o:=funext λo=>zr9 (λi=>zF4) o;apply Bx;intro i;by_cases hi:i<s.length;.have:=zv1 (sel:=List.range σ.length) (σc:=σ) (σ':=s) C5 (λq hq=>Cj.1 hq) (by simpa using h) (A0 hi);rw[zF4,hid]at this;rw[this,A0 hi]
 .have hl:(xC (List.range σ.length) σ s).length=s.length:=by rw[zu5];simp;omega
  rw[Bd om,Bd om]
theorem yF4{f:FuncId}(hN:(P.funcs.all λfn=>!(fn.name=="runtime.NumGoroutine"))=true)(h:(P.funcs[f]?.bind (·.body)).isSome=true):wG P f=true:=by unfold wG;cases hf:P.funcs[f]?with |none=>rw[hf]at h;cases h|some fn=>
  rw[hf]at h;simp only[Aw]at h;have h1:(!(fn.name=="runtime.NumGoroutine"))=true:=by obtain⟨hl,he⟩:=Ao.1 hf;have:=Array.all_eq_true.1 hN f hl;rw[he]at this;exact this
  simp only[h1,h,Bool.and_self]
theorem xh0{run:RunT}(hr:yE2 P run)(hN:(P.funcs.all λfn=>!(fn.name=="runtime.NumGoroutine"))=true):zs7 P (zN7 P H run):=by intro fv az σ v σ' h c;cases fv with
 |fn f caps=>
  obtain⟨h1,h2,_⟩:=zt9 hr h;refine VC.of h1 (yF4 hN h2) (List.range σ.length) C5 sm (λi j o hi ho=>?_) ?_ ?_;.obtain⟨h3,h4⟩:=A1.1 hi;simp at h3 h4;subst h4;rw[zr9 (λi=>zF4)];exact ho
  .have:∀l:List V,All2 (argS (ren (List.range σ.length) σ.length)) l l:=by intro l;induction l with |nil=>trivial|cons a l ih=>exact⟨.inl (zz0 (λi=>zF4) a).symm,ih⟩
   exact this _
  .rintro r s⟨rfl,rfl⟩hl;rw[zz0 (λi=>zF4),xk1 (by simpa using hl)];exact⟨rfl,rfl⟩|_=>cases h
theorem yF5{run:RunT}(hr:yE2 P run)(hN:(P.funcs.all λfn=>!(fn.name=="runtime.NumGoroutine"))=true):zv2 P (zN7 P H run):=by intro fv az v σ' h hn hf ha c s;cases fv with
 |fn f caps=>
  obtain⟨_,h2,h3⟩:=zt9 hr h;have hcn:caps.all noS=true:=by simp only[noS,noA,noC]at hf;rw[Af]at hf⊢;intro x hx;have:=hf x hx;cases x<;>first|exact this|cases this
  refine zJ (P:=P) (c:=c) (KV:=λr s'=>r=v/\s'=s) (h3 rfl hn) (yF4 hN h2) (yA (by rw[Ej,ha,hcn];rfl)) hn ⟨rfl,rfl⟩|_=>cases h
section
variable{P:Program}{T:zk2}{H:FuncId->List Nat}
theorem yQ4{ms:List Nat}{b:Code}{x:Exit}{l':List V}{σ':St}{N nt:Nat}(hk:∀k,k<=N->yE2 P (zK2 P T H k))(ad:nt<=100000){c:Ctx}{Q:QT}(hx:xu0 x=true)(hQ:Q x (envX ms l') σ'){l:List V}{σ:St}(h:zK2 P T H (N+1) ms (.loop b) l σ=some (x,l',σ'))(hl:l.length=nt):VW P c nt (.loop b) Q (envX ms l) σ:=by intro a w L β hs;refine ya2 (λm a w=>∃l σ L β,m<=N+1/\l.length=nt/\zK2 P T H m ms (.loop b) l σ=some (x,l',σ')/\Sim c nt (envX ms l) σ a w L β) (N+1) ⟨l,σ,L,β,A3 _,hl,h,hs⟩ ?_;rintro m a w⟨l,σ,L,β,hm,hl,h,hs⟩;cases m with |zero=>cases h|succ k=>
  have h:zp5 P T H (zK2 P T H k) ms (.loop b) l σ=some (x,l',σ'):=h;simp only[zp5]at h;split at h;.rename_i l1 σ1 hb;obtain⟨e1,e2,e3⟩:=hk k om _ _ _ _ _ _ _ hb om;have e4:=e3 c (λex e s=>ex=.normal/\e=envX ms l1/\s=σ1) ⟨rfl,rfl,rfl⟩;rw[hl]at e4;refine wp_mono (e4 a w L β hs) λex a' w' q=>?_;cases ex with |normal=>obtain⟨e',s',L',β',aa,_,rfl,rfl⟩:=q;exact⟨k,Es k,l1,s',L',β',om,om,h,aa⟩|exit id=>obtain⟨_,_,_,_,_,q,_⟩:=q;cases q|ret=>obtain⟨_,_,_,_,_,q,_⟩:=q;cases q|goto _=>exact q.elim|panic _=>exact q.elim|outgrown=>exact q.elim
  .rename_i ab;obtain⟨e1,e2,e3⟩:=hk k om _ _ _ _ _ _ _ h om;have e4:=e3 c (λex e s=>ex=x/\e=envX ms l'/\s=σ') ⟨rfl,rfl,rfl⟩;rw[hl]at e4;refine wp_mono (e4 a w L β hs) λex a' w' q=>?_;cases ex with |normal=>obtain⟨e',s',L',β',aa,q,_,_⟩:=q;subst q;exact absurd h (ab _ _)|exit id=>obtain⟨e',s',L',β',aa,rfl,rfl,rfl⟩:=q;exact⟨_,_,L',β',aa,hQ⟩|ret=>obtain⟨e',s',L',β',aa,rfl,rfl,rfl⟩:=q;exact⟨_,_,L',β',aa,hQ⟩|goto _=>exact q.elim|panic _=>exact q.elim|outgrown=>exact q.elim
theorem yQ2(hT:zs7 P T)(hT0:∀fv az,T fv az []=none)(hN:(P.funcs.all λfn=>!(fn.name=="runtime.NumGoroutine"))=true)(hm:P.follows .mixedOrders=true):∀n k,k<=n->yE2 P (zK2 P T H k):=by intro n;induction n with |zero=>intro k hk;have:k=0:=om;subst this;intro ms code l σ x l' σ' h;cases h|succ n ih=>
  intro k hk;rcases Cl k (n+1)with hlt|hge;.exact ih k om
  have:k=n+1:=om;subst this;have ihn:=ih n (A3 n);have hc:zs7 P (orT T (zN7 P H (zK2 P T H n))):=xX2 hT (xh0 ihn hN);have hpu:zv2 P (orT T (zN7 P H (zK2 P T H n))):=xz4 hT0 (yF5 ihn hN);intro ms code l σ x l' σ' h0 hl;have h:zp5 P T H (zK2 P T H n) ms code l σ=some (x,l',σ'):=h0;cases code with
  |skip=>simp only[zp5]at h;cases h;exact⟨rfl,rfl,λc Q hQ=>zh1 .skip Q _ _ hQ⟩|label s=>simp only[zp5]at h;cases h;exact⟨rfl,rfl,λc Q hQ=>zh1 (.label s) Q _ _ hQ⟩|exit id=>simp only[zp5]at h;cases h;exact⟨rfl,rfl,λc Q hQ=>zh1 (.exit id) Q _ _ hQ⟩|ret=>simp only[zp5]at h;cases h;exact⟨rfl,rfl,λc Q hQ=>zh1 .ret Q _ _ hQ⟩|seq x1 y1=>
   simp only[zp5]at h;split at h;.rename_i l1 σ1 hb;obtain⟨e1,e2,e3⟩:=ihn _ _ _ _ _ _ _ hb hl;obtain⟨f1,f2,f3⟩:=ihn _ _ _ _ _ _ _ h om;refine⟨om,f2,λc Q hQ=>?_⟩;refine zT8 (K:=λe s=>e=envX ms l1/\s=σ1) (e3 c _ ⟨rfl,rfl⟩) ?_;rintro e' s'⟨rfl,rfl⟩;have:=f3 c Q hQ;rwa[e1]at this
   .rename_i hno;obtain⟨e1,e2,e3⟩:=ihn _ _ _ _ _ _ _ h hl;refine⟨e1,e2,λc Q hQ=>?_⟩;refine zT8 (K:=λ_ _=>False) (e3 c _ ?_) (λ_ _ q=>q.elim);show xD5 _ Q x _ _;cases x with |normal=>exact absurd h (hno _ _)|_=>exact hQ
  |cond y t f=>
   simp only[zp5]at h;split at h;.rename_i hy;obtain⟨e1,e2,e3⟩:=ihn _ _ _ _ _ _ _ h hl;exact⟨e1,e2,λc Q hQ=>zT7 hy (λ_=>e3 c Q hQ) (λq=>by cases q)⟩
   .rename_i hy;obtain⟨e1,e2,e3⟩:=ihn _ _ _ _ _ _ _ h hl;exact⟨e1,e2,λc Q hQ=>zT7 hy (λq=>by cases q) (λ_=>e3 c Q hQ)⟩
   .cases h|block id b=>
   simp only[zp5]at h;split at h
   .rename_i id' l1 σ1 hb;obtain⟨e1,e2,e3⟩:=ihn _ _ _ _ _ _ _ hb hl;split at h;.rename_i hid;cases h;refine⟨e1,rfl,λc Q hQ=>za2 (e3 c _ ?_)⟩;show(if id'=id then Q .normal _ _ else Q (.exit id') _ _);rw[if_pos hid];exact hQ
    .rename_i hid;cases h;refine⟨e1,rfl,λc Q hQ=>za2 (e3 c _ ?_)⟩;show(if id'=id then Q .normal _ _ else Q (.exit id') _ _);rw[if_neg hid];exact hQ
   .rename_i hno;obtain⟨e1,e2,e3⟩:=ihn _ _ _ _ _ _ _ h hl;refine⟨e1,e2,λc Q hQ=>za2 (e3 c _ ?_)⟩;show blkV id Q x _ _;cases x with |exit id'=>exact absurd h (hno _ _ _)|_=>exact hQ
  |region id ops draw=>cases draw with
   |true=>
    simp only[zp5,if_true]at h;split at h;.rename_i l1 σ1 hx;cases h;refine⟨(yQ3 hc hpu hm (c:=⟨default,λ_=>0,[],[],[]⟩) (id:=id) hx hl).1,rfl,λc Q hQ=>?_⟩;have:=(yQ3 hc hpu hm (c:=c) (id:=id) hx hl).2 Q hQ;simpa using this
    .cases h|false=>
    simp only[zp5,Bj,if_false]at h;split at h;.rename_i l1 σ1 hx;cases h;refine⟨(zU1 hc (c:=⟨default,λ_=>0,[],[],[]⟩) _ _ _ _ _ hx hl).1,rfl,λc Q hQ=>?_⟩;have:=(zU1 hc (c:=c) _ _ _ _ _ hx hl).2 (Q .normal) hQ;exact zh1 _ _ _ _ (show zz4 P c l.length (.region id ops false) Q _ σ from by unfold zz4;simpa using this)
    .cases h
  |loop b=>
   have hh:=h;simp only[zp5]at h;split at h;.rename_i l1 σ1 hb;obtain⟨e1,e2,e3⟩:=ihn _ _ _ _ _ _ _ hb hl;obtain⟨f1,f2,f3⟩:=ihn _ _ _ _ _ _ _ h om;exact⟨om,f2,λc Q hQ=>yQ4 ih hl f2 hQ h0 rfl⟩
   .obtain⟨e1,e2,e3⟩:=ihn _ _ _ _ _ _ _ h hl;exact⟨e1,e2,λc Q hQ=>yQ4 ih hl e2 hQ h0 rfl⟩|rangeFunc _ _ _ _=>simp only[zp5]at h;cases h|scope _=>simp only[zp5]at h;cases h|goto _=>simp only[zp5]at h;cases h|refuse _=>simp only[zp5]at h;cases h
theorem xh1(hN:(P.funcs.all λfn=>!(fn.name=="runtime.NumGoroutine"))=true)(hm:P.follows .mixedOrders=true)(H:FuncId->List Nat)(n:Nat){f:FuncId}{az:List V}{σ σ':St}{v:V}(h:zN7 P H (zK2 P noT H n) (.fn f []) az σ=some (v,σ')):VCalls P f az σ (λr s=>r=v/\s=σ'):=by have:=(zt9 (yQ2 xx9 (λ_ _=>rfl) hN hm n n (A3 n)) h).1;rwa[Bc]at this
def xT0(P:Program)(H:FuncId->List Nat)(n:Nat)(f:FuncId)(az:List V):Option V:=match zN7 P H (zK2 P noT H n) (.fn f []) az []with |some (v,_)=>if noS v then some v else none|none=>none
theorem zj1(hN:(P.funcs.all λfn=>!(fn.name=="runtime.NumGoroutine"))=true)(hm:P.follows .mixedOrders=true)(H:FuncId->List Nat)(n:Nat){f:FuncId}{az:List V}{v:V}(h:xT0 P H n f az=some v):Pure P f az v:=by
 unfold xT0 at h;split at h
 .rename_i v' s hx;split at h;.rename_i hn;cases h;have:=(zt9 (yQ2 xx9 (λ_ _=>rfl) hN hm n n (A3 n)) hx).2.2 rfl hn;rwa[Bc]at this
  .cases h
 .cases h
end
section
variable{P:Program}{c:Ctx}{nt:Nat}{n0:Kp}{K:KT}{e:Env}{σ:St}{d:Option Tmp}
variable{x:Operand}{t:TypeId}{k:Operand}
@[go_sem]theorem wop_mapEntry:wop P c nt d (.mapEntry t x k) K fx fx e σ=wfin nt d (wC (mapT P t) σ (zF e x) (zF e k)) K fx e σ:=(yW rfl rfl).trans rfl
@[go_sem]theorem wop_entryStore{s v:Operand}:wop P c nt d (.entryStore t x s v) K fx fx e σ=wfin nt d (xO σ (zF e x) (zF e s) (zF e v)) K fx e σ:=(yW rfl rfl).trans rfl
@[go_sem]theorem wop_entry:wop P c nt d (.entry x) K fx fx e σ=wfin nt d (zj5 σ (zF e x)) K fx e σ:=(yW rfl rfl).trans rfl
@[go_sem]theorem wop_ifc:wop P c nt d (.makeInterface t x) K fx fx e σ=wfin nt d (zY2 (yr8 P t) t (zF e x)) K fx e σ:=(yW rfl rfl).trans rfl
@[go_sem]theorem wtop_lookup{ok:Bool}:wtop P c nt n0 4 d (.lookup t x k ok) K fx fx e σ=wop P c nt d (.lookup t x k ok) K fx fx e σ:=zU0 (λ_ _ _ _ _ h=>by cases h) (λ_ _ h=>by cases h) (λ_ _=>rfl) (λ_ _ _ h=>by cases h)
@[go_sem]theorem wtop_mapUpdate{v:Operand}:wtop P c nt n0 4 d (.mapUpdate t x k v) K fx fx e σ=wop P c nt d (.mapUpdate t x k v) K fx fx e σ:=zU0 (λ_ _ _ _ _ h=>by cases h) (λ_ _ h=>by cases h) (λ_ _=>rfl) (λ_ _ _ h=>by cases h)
@[go_sem]theorem wtop_entryStore{s v:Operand}:wtop P c nt n0 4 d (.entryStore t x s v) K fx fx e σ=wop P c nt d (.entryStore t x s v) K fx fx e σ:=zU0 (λ_ _ _ _ _ h=>by cases h) (λ_ _ h=>by cases h) (λ_ _=>rfl) (λ_ _ _ h=>by cases h)
theorem zp4(h2:stOk n0 3 σ (wC (mapT P t) σ (zF e x) (zF e k)))(h:wop P c nt d (.mapEntry t x k) K fx fx e σ):wtop P c nt n0 3 d (.mapEntry t x k) K fx fx e σ:=by rw[zz6 (λ_ _ _ _ _ h=>by cases h) (λ_ _=>rfl) h2 (λ_ _ _ h=>by cases h)];exact h
theorem zC8{s v:Operand}(h2:stOk n0 3 σ (xO σ (zF e x) (zF e s) (zF e v)))(h:wop P c nt d (.entryStore t x s v) K fx fx e σ):wtop P c nt n0 3 d (.entryStore t x s v) K fx fx e σ:=by rw[zz6 (λ_ _ _ _ _ h=>by cases h) (λ_ _=>rfl) h2 (λ_ _ _ h=>by cases h)];exact h
theorem zQ7{m:Option (Kk×V)}{id:Nat}{kv:V}{ok:Bool}{g:Ob->R}(hg:g=λo=>xY m [o] (.mp 0) kv ok)(s:St):xY m s (.mp id) kv ok=match s[id]?.map g with |some r=>r|none=>xY m [] (.mp 0) kv ok:=by subst hg;unfold xY;cases m with |none=>cases s[id]?<;>rfl|some p=>
  obtain⟨kd,z⟩:=p;by_cases hk:zo1 kd kv=true;.cases h:s[id]?<;>simp[hk,h]
  .cases h:s[id]?<;>simp[hk,h]
theorem yl4{ok:Bool}{id:Nat}{kv:V}{m:Option (Kk×V)}{g:Ob->R}(hx:zF e x=.mp id)(hk:zF e k=kv)(hm:mapT P t=m)(hg:g=λo=>xY m [o] (.mp 0) kv ok)(ad:n0.ob=some (id,g))(hn:id<n0.n){v:V}(hv:xY m σ (.mp id) kv ok=.ok v)(h:wput nt d v K fx e σ):wtop P c nt n0 1 d (.lookup t x k ok) K fx fx e σ:=by
 have aa:∀s,evOp P e s (.lookup t x k ok)=xY m s (.mp id) kv ok:=λs=>by simp only[evOp,hx,hk,hm]
 have ab:∀s,n0.of s=n0.of σ->evOp P e s (.lookup t x k ok)=evOp P e σ (.lookup t x k ok):=λs hs=>by rw[aa s,aa σ,zQ7 hg s,zQ7 hg σ];have h2:=congrArg Prod.snd hs;unfold Kp.of at h2;simp only[ad,Aw,Ae,if_pos hn]at h2;rw[h2]
 show vtop P c nt n0 1 d (.lookup t x k ok) K e σ;have h1:=zg2 (P:=P) (e:=e) (σ:=σ) (.lookup t x k ok) (λ_ _ _ _ _ h=>by cases h);have h0:isSt (evOp P e σ (.lookup t x k ok))=false:=by simp only[evOp];unfold xY;(repeat' split)<;>rfl
 have hh:hok P d e (.lookup t x k ok):=.inr λ_ _=>rfl;unfold vtop;refine⟨λ_=>hh,by rw[zp6 hh];exact h1,λq=>by simp at q,λ_=>.inr ⟨λ_ _ h=>(by cases h),ab⟩,λq=>absurd q (by rw[zp6 hh,h0];decide),by rw[zp6 hh];exact zs1 h0,?_⟩;rw[zp6 hh,aa σ,hv];exact h
@[go_sem]theorem Kp.has_ex{n id:Nat}{ex:List Nat}{ob:Option (Nat×(Ob->R))}:(Kp.mk 0 n ex ob).has id=(decide (id<n)&&!ex.contains id):=by simp[Kp.has]
theorem zX{n0:Nat}{keep:List Nat}{vs:List V}{e:Env}{σ:St}(hn:n0<=σ.length)(h:keep.map e=vs):At n0 keep vs σ e σ:=by
 have ra:∀i,ren (List.range σ.length) σ.length i=i:=λi=>by
  by_cases h:i<σ.length;.exact zf3 h
  .rw[zs9 (by simp;omega)];simp;omega
 refine⟨List.range σ.length,⟨sm,C5,λi j o hi ho=>?_,λi hi=>by rw[Co om]⟩,?_⟩;.obtain⟨h1,h2⟩:=A1.1 hi;simp at h1 h2;subst h2;rw[zr9 ra];exact ho
 .rw[h];have:∀l:List V,All2 (argS (ren (List.range σ.length) σ.length)) l l:=by intro l;induction l with |nil=>trivial|cons a l ih=>exact⟨.inl (zz0 ra a).symm,ih⟩
  exact this _
theorem yD0{id:Nat}{ops:List Oper}{Q:QT}(q:List (Nat×Nat))(k:Kp)(hn:k.n<=σ.length)(hm:P.follows .mixedOrders=true)(hd:(zz8 ops q&&zd2 ops)=true)(h:wtr P c nt k ops q 0 ops (Q .normal) fx fx fx e σ):wVW P c nt (.region id ops.toArray true) Q fx fx e σ:=by simp only[A6]at hd;obtain⟨tr,ht,hK⟩:=zq1 ops 0 (Q .normal) e σ h;exact VW.draw (n0:=k) hm hn hd.1 hd.2 ht hK
end
end Go.Vx
