/-
  Rules of the walk for maps: an entry that is laid for `m[k] op= v`, looked at and laid in regions whose order is open.
  No condition: a library text; nothing of the program is named.
-/
import Derived.Test.YtkigddpaonhmlaaGreatXAM
import Derived.Test.YtkigddpaonhmlaaGreatXAO
set_option maxHeartbeats 8000000
namespace Go.Vx
open Go
def yJ (b:Bool):R->Prop
 | .need p _=>b=true->p
 | .needst p _ _=>b=true->p
 |_=>True
def uniB (s:Nat) (rows:List (List V)):Bool:=rows.all fun r=>r.length==s
theorem zm9 {s:Nat} {rows:List (List V)} (h:uniB s rows=true):uni s rows:=fun r hr=>by
 have:=Af.1 h r hr
 simpa using this
def xm4:List V->Bool
 | [.int .u8 _]=>true
 |_=>false
theorem xm5 {rows:List (List V)} (h:rows.all xm4=true):zO7 rows:=fun r hr=>by
 have:=Af.1 h r hr
 unfold xm4 at this
 split at this
 .exact⟨_,rfl⟩
 .cases this
def zY6 (op:BinOp) (y:Int):Bool:=
 match op with
 | .quo| .rem=>decide (y≠0)
 | .shl| .shr=>decide (0<=y)
 |_=>true
def yy5 (op:BinOp) (x y:List UInt8):Bool:=
 match op with
 | .add=>decide (x.length+y.length<=9223372036854775807)
 |_=>true
def binB (op:BinOp) (x y:V):Bool:=
 match x,y with
 | .int _ _,.int _ b=>zY6 op b
 | .str a,.str b=>yy5 op a b
 |_,_=>true
theorem yE7 (op:BinOp) (k:IntKind) (x y:Int):yJ (zY6 op y) (zL8 op k x y):=by
 cases op<;>simp[zL8,zY6,yJ]
theorem yK1 (op:BinOp) (x y:List UInt8):yJ (yy5 op x y) (zM9 op x y):=by
 cases op<;>simp[zM9,yy5,yJ]
theorem xl9 (op:BinOp) (ek:Nat) (es:Option (List Pk)) (x y:V):yJ (binB op x y) (zr5 op ek es x y):=by
 unfold zr5
 split
 .simp only[binB]
  split
  .exact yE7 ..
  .cases op<;>simp[zY6,yJ]
 .exact yK1 ..
 all_goals (repeat' split)<;>trivial
theorem yP3 (op:BinOp) (ek:Nat) (x:V) (b:Bool):yJ b (zs4 op ek x):=by
 unfold zs4 yG8
 (repeat' split)<;>trivial
def ye9 (sl:Option Nat) (ar:Option (Nat×Nat×Bool)) (x i:V):Bool:=
 match x,i with
 | .sl _ rows,.int _ k=>(match sl with|some s=>decide (0<=k/\k<rows.length/\(rows.getD k.toNat []).length=s)|none=>true)
 | .ptr _ _,.int _ k=>(match ar with|some (n,_,_)=>decide (0<=k/\k<n)|none=>true)
 | .elp _ _,.int _ k=>(match ar with|some (n,_,_)=>decide (0<=k/\k<n)|none=>true)
 | .lsv _ _ _ _ m,.int _ k=>decide (0<=k/\k<m)
 | .bsv _ _ _ n,.int _ k=>decide (0<=k/\k<n)
 |_,_=>true
theorem yv1 (sl:Option Nat) (ar:Option (Nat×Nat×Bool)) (x i:V):yJ (ye9 sl ar x i) (zi0 sl ar x i):=by
 unfold zi0
 split
 all_goals first|trivial|simp only[ye9]
 all_goals split<;>first|trivial|simp only[yJ,decide_eq_true_eq,imp_self]
def idxB (x i:V) (ar:Option (Nat×Nat×Bool)):Bool:=
 match x,i with
 | .str b,.int _ k=>decide (0<=k/\k<b.length)
 | .agg cs,.int _ k=>(match ar with|some (n,s,false)=>decide (0<=k/\k<n/\(k.toNat*s)<cs.length)|_=>true)
 |_,_=>true
theorem xr1 (x i:V) (str:Bool) (ar:Option (Nat×Nat×Bool)):yJ (idxB x i ar) (zO0 x i str ar):=by
 unfold zO0
 split
 .simp only[idxB]
  split<;>first|trivial|simp only[yJ,decide_eq_true_eq,imp_self]
 .split
  .simp only[idxB,yJ,decide_eq_true_eq,imp_self]
  .trivial
 .trivial
def yi6 (es:Option Nat) (x:V) (lo hi:Option V):Bool:=
 match x with
 | .lsv _ s n l0 m=>(match bnd lo 0,bnd hi m,es with|some l,some h,some z=>decide (0<=l/\l<=h/\(h<=m∨(l0:Int)+h<=n)/\z=s)|_,_,_=>true)
 | .str s=>(match bnd lo 0,bnd hi s.length with|some l,some h=>decide (0<=l/\l<=h/\h<=s.length)|_,_=>true)
 | .sl _ rows=>(match bnd lo 0,bnd hi rows.length,es with|some l,some h,some z=>decide (0<=l/\l<=h/\h<=rows.length)&&uniB z rows|_,_,_=>true)
 |_=>true
theorem yR9 (ar:Option (Nat×Nat×Bool)) (k:Nat) (es:Option Nat) (x:V) (lo hi:Option V):yJ (yi6 es x lo hi) (zm2 ar k es x lo hi):=by
 unfold zm2
 split
 .split
  .rename_i h1 h2
   split
   .simp only[yi6,h1,h2,yJ,decide_eq_true_eq,imp_self]
   .trivial
  .trivial
 .split<;>trivial
 .split
  .rename_i h1 h2
   split
   .simp only[yi6,h1,h2,yJ,decide_eq_true_eq,imp_self]
   .trivial
  .trivial
 .split
  .rename_i h1 h2
   split
   .simp only[yi6,h1,h2,yJ,A4,decide_eq_true_eq]
    exact fun h=>⟨h.1.1,h.1.2.1,h.1.2.2,zm9 h.2⟩
   .trivial
  .trivial
 .trivial
def zZ4 (es:Option Nat) (x lo hi mx:V):Bool:=
 match x,lo,hi,mx,es with
 | .sl _ rows,.int _ l,.int _ h,.int _ m,some z=>decide (0<=l/\l<=h/\h<=rows.length/\m=h)&&uniB z rows
 | .lsv _ s _ _ n,.int _ l,.int _ h,.int _ m,some z=>decide (0<=l/\l<=h/\h<=m/\m<=n/\z=s)
 |_,_,_,_,_=>true
theorem yJ6 (es:Option Nat) (x lo hi mx:V):yJ (zZ4 es x lo hi mx) (zp5 es x lo hi mx):=by
 unfold zp5
 split
 .simp only[zZ4,yJ,A4,decide_eq_true_eq]
  exact fun h=>⟨h.1.1,h.1.2.1,h.1.2.2.1,h.1.2.2.2,zm9 h.2⟩
 .simp only[zZ4,yJ,decide_eq_true_eq,imp_self]
 .trivial
def xL0 (x:V):Bool:=
 match x with
 | .sl _ rows=>rows.all xm4
 |_=>true
theorem xd4 (ks kd:Option Kd) (x:V):yJ (xL0 x) (zB7 ks kd x):=by
 unfold zB7
 split
 .split<;>trivial
 .split<;>trivial
 .split<;>trivial
 .split
  .exact xm5
  .trivial
 .trivial
def yF6 (el:Option (Nat×Nat)) (l m:V):Bool:=
 match el,l,m with
 |some (_,by'),.int .i64 n,.int .i64 k=>decide (0<=n/\n<=k/\k.toNat*by'<=140737488355328)
 |_,_,_=>false
theorem xf5 (el:Option (Nat×Nat)) (zs:Option (List V)) (σ:St) (l m:V):yJ (yF6 el l m) (zB9 el zs σ l m):=by
 unfold zB9
 split
 .simp only[yF6,yJ,decide_eq_true_eq,imp_self]
 .trivial
theorem yO9 (el:Option (Nat×Nat)) (zs:Option (List V)) (σ:St) (l m:V):yJ (yF6 el l m) (zs3 el zs σ l m):=by
 unfold zs3
 split
 .simp only[yF6,yJ,decide_eq_true_eq,imp_self]
 .trivial
def yN1 (sl:Option Nat) (σ:St) (x:V):Bool:=
 match x with
 | .lsv id s n lo m=>(match σ[id]? with|some (.lst rows s')=>decide (sl=some s/\s'=s/\rows.length=n/\lo+m<=n)|_=>true)
 |_=>true
theorem yN2 (sl:Option Nat) (zs:Option (List V)) (σ:St) (x:V):yJ (yN1 sl σ x) (zs2 sl zs σ x):=by
 unfold zs2
 split
 .split
  .rename_i h1
   simp only[yN1,h1,yJ,decide_eq_true_eq,imp_self]
  .trivial
 .trivial
def srcB (σ:St):V->Bool
 | .lsv id s n lo m=>(match σ[id]? with|some (.lst rows s')=>decide (s'=s/\rows.length=n/\lo+m<=n)&&xW ((rows.drop lo).take m)|_=>false)
 |_=>true
theorem zP7 {σ:St} {y:V} (h:srcB σ y=true):zm8 σ y:=by
 unfold zm8
 split
 .simp only[srcB]at h
  split at h
  .rename_i h1
   rw[h1]
   simp only[A4,decide_eq_true_eq]at h
   exact⟨h.1.1,h.1.2.1,h.1.2.2,h.2⟩
  .cases h
 .trivial
def zI1 (el:Option (Nat×Nat)) (k2:Nat) (σ:St) (x y:V):Bool:=
 match el,zD5 k2 σ y with
 |some (s,by'),some r2=>
  (match x with
  | .sl .full r1=>srcB σ y&&decide ((r1.length+r2.length)*by'<=140737488355328)&&uniB s r1&&uniB s r2
  | .sl (.app id) r1=>(match σ[id]? with
   |some (.app n s')=>srcB σ y&&decide (r1.length=n/\s'=s/\(r1.length+r2.length)*by'<=140737488355328)&&uniB s r2
   |_=>true)
  | .lsv id s1 n lo m=>(match σ[id]? with
   |some (.lst rows s')=>srcB σ y&&decide (s1=s/\s'=s/\rows.length=n)&&uniB s r2&&(decide (lo+m+r2.length<=n)||decide (lo=0/\m=n/\(n+r2.length)*by'<=140737488355328))
   |_=>true)
  |_=>true)
 |_,_=>true
theorem yA9 (el:Option (Nat×Nat)) (k2:Nat) (σ:St) (x y:V):yJ (zI1 el k2 σ x y) (zg8 el k2 σ x y):=by
 unfold zg8
 split
 .rename_i h2
  split
  .simp only[zI1,h2,yJ,A4,decide_eq_true_eq]
   exact fun h=>⟨zP7 h.1.1.1,h.1.1.2,zm9 h.1.2,zm9 h.2⟩
  .split
   .rename_i h3
    simp only[zI1,h2,h3,yJ,A4,decide_eq_true_eq]
    exact fun h=>⟨zP7 h.1.1,h.1.2.1,h.1.2.2.1,h.1.2.2.2,zm9 h.2⟩
   .trivial
  .split
   .rename_i h3
    split
    .simp only[zI1,h2,h3,yJ,A4,decide_eq_true_eq]
     exact fun h=>⟨zP7 h.1.1.1,h.1.1.2.1,h.1.1.2.2.1,h.1.1.2.2.2,zm9 h.1.2⟩
    .rename_i hno
     simp only[zI1,h2,h3,yJ,A4,Bt,decide_eq_true_eq]
     exact fun h=>⟨zP7 h.1.1.1,h.1.1.2.1,h.1.1.2.2.1,h.1.1.2.2.2,zm9 h.1.2,(h.2.resolve_left hno)⟩
   .trivial
  .trivial
 .trivial
def xx3 (σ:St):V->Bool
 | .lsv id s n lo m=>(match σ[id]? with|some (.lst rows s')=>decide (s'=s/\rows.length=n/\lo+m<=n)|_=>false)
 |_=>true
theorem yJ8 {σ:St} {y:V} (h:xx3 σ y=true):zv4 σ y:=by
 unfold zv4
 split
 .simp only[xx3]at h
  split at h
  .rename_i h1
   rw[h1]
   exact of_decide_eq_true h
  .cases h
 .trivial
def zF0 (el:Option (Nat×Nat)) (k2:Nat) (σ:St) (x y:V):Bool:=
 match x with
 | .lsv id s1 n lo m=>(match el,zH2 k2 σ y with
  |some (s,by'),some r2=>(match σ[id]? with
   |some (.lst rows s')=>xx3 σ y&&decide (s1=s/\s'=s/\rows.length=n)&&uniB s r2&&(decide (lo+m+r2.length<=n)||decide (lo=0/\m=n/\(n+r2.length)*by'<=140737488355328))
   |_=>true)
  |_,_=>true)
 |x=>match el,zD5 k2 σ y with
 |some (s,by'),some r2=>
  (match x with
  | .sl .full r1=>srcB σ y&&decide ((r1.length+r2.length)*by'<=140737488355328)&&uniB s r1&&uniB s r2&&(!r2.isEmpty||r1.isEmpty)
  |_=>true)
 |_,_=>true
theorem yt2 (el:Option (Nat×Nat)) (k2:Nat) (σ:St) (x y:V):yJ (zF0 el k2 σ x y) (zd9 el k2 σ x y):=by
 unfold zd9
 split
 .split
  .rename_i h2
   split
   .rename_i h3
    split
    .simp only[zF0,h2,h3,yJ,A4,decide_eq_true_eq]
     exact fun h=>⟨yJ8 h.1.1.1,h.1.1.2.1,h.1.1.2.2.1,h.1.1.2.2.2,zm9 h.1.2⟩
    .rename_i hno
     simp only[zF0,h2,h3,yJ,A4,Bt,decide_eq_true_eq]
     exact fun h=>⟨yJ8 h.1.1.1,h.1.1.2.1,h.1.1.2.2.1,h.1.1.2.2.2,zm9 h.1.2,(h.2.resolve_left hno)⟩
   .trivial
  .trivial
 .split
  .rename_i h2
   split
   .simp only[zF0,h2,yJ,A4,decide_eq_true_eq]
    refine fun h=>⟨zP7 h.1.1.1.1,h.1.1.1.2,zm9 h.1.1.2,zm9 h.1.2,fun e=> ?_⟩
    have:=h.2
    rw[e]at this
    simpa using this
   .trivial
  .trivial
def zp2 (L:Bool) (es:Option Nat) (len:Nat) (parts:List (Nat×V)):Bool:=
 match es with
 |some s=>(parts.all fun p=>(L||zL0 p.2)&&(xD p.2).length==s)&&decide (len*s<=16777216/\0<s)
 |none=>true
theorem zX6 (es:Option Nat) (len:Nat) (parts:List (Nat×V)):yJ (zp2 false es len parts) (za7 es len parts):=by
 unfold za7
 split
 .split
  .simp only[zp2,yJ,A4,decide_eq_true_eq,Af,C8,beq_iff_eq]
   exact fun h=>⟨fun p hp=>h.1 p hp,h.2⟩
  .trivial
 .trivial
theorem zR5 (es:Option Nat) (len:Nat) (σ:St) (parts:List (Nat×V)):yJ (zp2 true es len parts) (wT es len σ parts):=by
 unfold wT
 split
 .split
  .simp only[zp2,yJ,A4,decide_eq_true_eq,Af,Dl,beq_iff_eq]
   exact fun h=>⟨fun p hp=>(h.1 p hp).2,h.2⟩
  .trivial
 .trivial
def yg6 (P:Program) (L:Bool) (e:Env) (σ:St):Op->Bool
 | .buildSlice t n ps=>zp2 L ((elT P t).map (·.1)) n (ps.toList.map fun p=>(p.1,zF e p.2))
 | .binOp op _ x y _=>binB op (zF e x) (zF e y)
 | .convert _ _ x=>xL0 (zF e x)
 | .slice t x lo hi none=>if L then false else yi6 ((elT P t).map (·.1)) (zF e x) (lo.map (zF e)) (hi.map (zF e))
 | .slice t x (some lo) (some hi) (some mx)=>zZ4 ((elT P t).map (·.1)) (zF e x) (zF e lo) (zF e hi) (zF e mx)
 | .indexAddr t x i=>ye9 (slcT P t) (arrT P t) (zF e x) (zF e i)
 | .index t x i=>idxB (zF e x) (zF e i) (arrT P t)
 | .makeSlice t l m=>yF6 (elT P t) (zF e l) (zF e m)
 | .call ⟨.builtin .append,⟨[x,y]⟩,⟨[t,t']⟩⟩=>if L then zF0 (elT P t) (lenT P t') σ (zF e x) (zF e y)else zI1 (elT P t) (lenT P t') σ (zF e x) (zF e y)
 | .call ⟨.builtin .clear,⟨[x]⟩,⟨[t]⟩⟩=>yN1 ((elT P t).map (·.1)) σ (zF e x)
 |_=>true
def xW1:R->Bool
 | .need _ _| .needst _ _ _=>false
 |_=>true
theorem yR {b:Bool} {r:R} (h:xW1 r=true):yJ b r:=by
 cases r<;>first|trivial|cases h
theorem zS1 {P:Program} {e:Env} {σ:St} (op:Op):yJ (yg6 P false e σ op) (evOp P e σ op):=by
 unfold evOp
 split
 .trivial
 .trivial
 .refine yR ?_;unfold zF6;(repeat' split)<;>rfl
 .refine yR ?_;unfold zk4;(repeat' split)<;>rfl
 .refine yR ?_;unfold zN9;(repeat' split)<;>rfl
 .refine yR ?_;unfold zw2;(repeat' split)<;>rfl
 .exact zX6 ..
 .refine yR ?_;unfold zg9;(repeat' split)<;>first|rfl|(unfold zk5;(repeat' split)<;>rfl)
 .refine yR ?_;unfold zs5;(repeat' split)<;>rfl
 .refine yR ?_;unfold zV7;(repeat' split)<;>rfl
 .split
  .exact yP3 ..
  .split
   .refine yR ?_;unfold zp4;(repeat' split)<;>rfl
   .exact xl9 ..
 .refine yR ?_;unfold evUn;(repeat' split)<;>rfl
 .exact xd4 ..
 .exact yR9 ..
 .exact yJ6 ..
 .refine yR ?_;unfold ze3;(repeat' split)<;>rfl
 .refine yR ?_;unfold zw4;(repeat' split)<;>rfl
 .exact yv1 ..
 .exact xr1 ..
 .refine yR ?_;unfold zl4;(repeat' split)<;>rfl
 .refine yR ?_;unfold zF5;(repeat' split)<;>rfl
 .exact xf5 ..
 .refine yR ?_;unfold zV6;(repeat' split)<;>rfl
 .exact yA9 ..
 .exact yN2 ..
 .refine yR ?_;unfold zz3;(repeat' split)<;>rfl
 .refine yR ?_;unfold zz3;(repeat' split)<;>rfl
 .refine yR ?_;unfold zp3;(repeat' split)<;>rfl
 .refine yR ?_;unfold zl5;(repeat' split)<;>rfl
 .refine yR ?_;unfold xO;(repeat' split)<;>rfl
 .refine yR ?_;unfold xK;(repeat' split)<;>rfl
 .refine yR ?_;unfold xK;(repeat' split)<;>rfl
 .refine yR ?_;unfold xQ;(repeat' split)<;>rfl
 .refine yR ?_;unfold xI;(repeat' split)<;>rfl
 .refine yR ?_;unfold zw5;(repeat' split)<;>rfl
 .refine yR ?_;unfold zh9;(repeat' split)<;>rfl
 .refine yR ?_;unfold zV5;(repeat' split)<;>rfl
 .refine yR ?_;unfold zh0;(repeat' split)<;>rfl
 .trivial
theorem yN7 {P:Program} {e:Env} {σ:St} (op:Op):yJ (yg6 P false e σ op&&yg6 P true e σ op) (wV P e σ op):=by
 have weak: ∀{b c:Bool} {r:R},yJ b r->yJ (c&&b) r:=by
  intro b c r h
  cases r with
  |need p v=>exact fun q=>h (by simp at q;exact q.2)
  |needst p v s=>exact fun q=>h (by simp at q;exact q.2)
  |_=>trivial
 have weak1: ∀{b c:Bool} {r:R},yJ b r->yJ (b&&c) r:=by
  intro b c r h
  cases r with
  |need p v=>exact fun q=>h (by simp at q;exact q.1)
  |needst p v s=>exact fun q=>h (by simp at q;exact q.1)
  |_=>trivial
 unfold wV
 split
 .exact weak (zR5 ..)
 .exact weak (yO9 ..)
 .refine yR ?_;unfold zw3;(repeat' split)<;>rfl
 .refine weak (b:=false) ?_;unfold zp6;(repeat' split)<;>first|trivial|exact fun q=>by cases q
 .exact weak (yt2 ..)
 .refine yR ?_;unfold zh0;(repeat' split)<;>rfl
 .exact weak1 (zS1 op)
def xopR (b:Bool) (σ:St):R->Option (V×St)
 | .ok v=>some (v,σ)
 | .need _ v=>if b then some (v,σ)else none
 | .st v σ'=>some (v,σ')
 | .needst _ v σ'=>if b then some (v,σ')else none
 |_=>none
def xop (P:Program) (d:Option Tmp) (e:Env) (σ:St) (op:Op):Option (V×St):=
 if zd1 e d then xopR (yg6 P false e σ op&&yg6 P true e σ op) σ (wV P e σ op)else xopR (yg6 P false e σ op) σ (evOp P e σ op)
theorem yk4 {b:Bool} {σ σ':St} {r:R} {v:V} {nt:Nat} {d:Option Tmp} {K:KT} {e:Env} (hn:yJ b r) (h:xopR b σ r=some (v,σ')) (hk:vput nt d v K e σ'):vfin nt d r K e σ:=by
 cases r with
 |fail=>cases h
 |ok v'=>cases h;exact hk
 |need p v'=>
  simp only[xopR]at h
  split at h
  .rename_i hb
   cases h;exact⟨hn hb,hk⟩
  .cases h
 |st v' s=>cases h;exact hk
 |needst p v' s=>
  simp only[xopR]at h
  split at h
  .rename_i hb
   cases h;exact⟨hn hb,hk⟩
  .cases h
 |all f=>cases h
 |any l=>cases h
theorem xK1 {P:Program} {σ σ':St} {op:Op} {v:V} {nt:Nat} {d:Option Tmp} {K:KT} {e:Env} (h:xop P d e σ op=some (v,σ')) (hk:vput nt d v K e σ'):vfin nt d (xL P d e σ op) K e σ:=by
 unfold xop at h
 unfold xL
 split at h
 .rename_i hh
  rw[if_pos hh]
  exact yk4 (yN7 op) h hk
 .rename_i hh
  rw[if_neg hh]
  exact yk4 (zS1 op) h hk
def envX (ms:List Nat) (l:List V):Env:=fun t=>if t<100000 then l.getD t .u else if ms.contains (t - 100000)then .tup []else .u
theorem xo5 {ms:List Nat} {l:List V} {t:Nat} {v:V} (h:t<l.length) (hl:l.length<=100000):upd (envX ms l) t v=envX ms (l.set t v):=by
 funext k
 simp only[upd,envX]
 by_cases hk:k=t
 .subst hk
  rw[if_pos rfl,if_pos (by omega),A5,Ak h];rfl
 .rw[if_neg hk]
  split
  .rw[A5,A5,Ad (fun q=>hk q.symm)]
  .rfl
def xput (d:Option Tmp) (v:V) (l:List V):Option (List V):=
 match d with
 |some t=>if t<l.length then some (l.set t v)else none
 |none=>some l
theorem ya4 {d:Option Tmp} {v:V} {l l':List V} {ms:List Nat} (h:xput d v l=some l') (hl:l.length<=100000):l'.length=l.length/\ ∀(K:KT) (σ:St),K (envX ms l') σ->vput l.length d v K (envX ms l) σ:=by
 unfold xput at h
 unfold vput
 split at h
 .split at h
  .rename_i ht
   cases h
   refine⟨by simp,fun K σ hk=>⟨ht, ?_⟩⟩
   rw[xo5 ht hl];exact hk
  .cases h
 .cases h
  exact⟨rfl,fun K σ hk=>hk⟩
def xgd (g:Option (Nat×Bool)) (ops:List Oper) (e:Env):Option Bool:=
 match g with
 |none=>some true
 |some (j,want)=>(match gdst ops j with|some t=>(match e t with| .bool b=>some (b==want)| .tup []=>some false|_=>none)|none=>none)
theorem yA1 {g:Option (Nat×Bool)} {ops:List Oper} {e:Env} {A B:Prop} {r:Bool} (h:xgd g ops e=some r) (ha:r=true->A) (hb:r=false->B):vgd g ops e A B:=by
 unfold xgd at h
 unfold vgd
 split at h
 .cases h;exact ha rfl
 .split at h
  .rename_i t ht
   simp only[ht]
   unfold vgrd
   split at h
   .rename_i b he
    cases h
    rw[he]
    exact⟨fun q=>ha (by simp[q]),fun q=>hb (by simpa using q)⟩
   .rename_i he
    cases h
    rw[he]
    exact hb rfl
   .cases h
  .cases h
abbrev zi5:=V->List V->St->Option (V×St)
def zq8 (P:Program) (call:zi5):Prop:= ∀fv as σ v σ',call fv as σ=some (v,σ')-> ∀c,VC P c fv as σ (fun r s=>r=v/\s=σ')
def xopc (P:Program) (call:zi5) (d:Option Tmp) (e:Env) (σ:St) (op:Op):Option (V×St):=
 match op with
 | .call ⟨.value f,args,_⟩=>call (zF e f) (args.toList.map (zF e)) σ
 |op=>xop P d e σ op
theorem xK2 {P:Program} {call:zi5} (hc:zq8 P call) {d:Option Tmp} {e:Env} {σ σ':St} {op:Op} {v:V} {nt:Nat} {c:Ctx} {K:KT} (h:xopc P call d e σ op=some (v,σ')) (hk:vput nt d v K e σ'):vop P c nt d op K e σ:=by
 unfold xopc at h
 unfold vop
 split at h
 .refine(hc _ _ _ _ _ h c).mono ?_
  rintro r s ⟨rfl,rfl⟩
  exact hk
 .rename_i hno
  split
  .exact absurd rfl (hno _ _ _)
  .exact xK1 h hk
def yM1 (P:Program) (call:zi5) (ms:List Nat) (ops:List Oper):List Oper->List V->St->Option (List V×St)
 | [],l,σ=>some (l,σ)
 |o::rest,l,σ=>
  match xgd o.guard ops (envX ms l)with
  |none=>none
  |some true=>(match xopc P call o.dst (envX ms l) σ o.op with
   |some (v,σ')=>(match xput o.dst v l with|some l'=>yM1 P call ms ops rest l' σ'|none=>none)
   |none=>none)
  |some false=>(match xput o.dst (.tup []) l with|some l'=>yM1 P call ms ops rest l' σ|none=>none)
theorem zR2 {P:Program} {call:zi5} (hc:zq8 P call) {ms:List Nat} {ops:List Oper} {c:Ctx}: ∀(rest:List Oper) (l:List V) (σ:St) (l':List V) (σ':St),yM1 P call ms ops rest l σ=some (l',σ')->l.length<=100000->
  l'.length=l.length/\ ∀K:KT,K (envX ms l') σ'->vrun P c l.length ops rest K (envX ms l) σ
 | [],l,σ,l',σ',h,hl=>by cases h;exact⟨rfl,fun K hk=>hk⟩
 |o::rest,l,σ,l',σ',h,hl=>by
  unfold yM1 at h
  split at h
  .cases h
  .rename_i hg
   split at h
   .rename_i v s1 ho
    split at h
    .rename_i l1 hp
     obtain⟨e1,e2⟩:=ya4 (ms:=ms) hp hl
     obtain⟨e3,e4⟩:=zR2 hc (c:=c) rest l1 s1 l' σ' h (by omega)
     refine⟨by omega,fun K hk=> ?_⟩
     refine yA1 hg (fun _=> ?_) (fun q=>by cases q)
     refine xK2 hc ho (e2 _ _ ?_)
     have:=e4 K hk
     rwa [e1]at this
    .cases h
   .cases h
  .rename_i hg
   split at h
   .rename_i l1 hp
    obtain⟨e1,e2⟩:=ya4 (ms:=ms) hp hl
    obtain⟨e3,e4⟩:=zR2 hc (c:=c) rest l1 σ l' σ' h (by omega)
    refine⟨by omega,fun K hk=> ?_⟩
    refine yA1 hg (fun q=>by cases q) (fun _=> ?_)
    refine e2 _ _ ?_
    have:=e4 K hk
    rwa [e1]at this
   .cases h
def notL:Op->Bool
 | .buildSlice .. | .makeSlice .. | .convert .. | .call _| .next .. | .slice .. =>false
 |_=>true
theorem xF8 {P:Program} {op:Op} (h:notL op=true): ∀e σ,wV P e σ op=evOp P e σ op:=by
 intro e σ
 cases op<;>first|rfl|cases h
def yX5 (n0:Kp) (e:Env):Op->Bool
 | .load _ x=>imm n0 (zF e x)
 |_=>false
def xV6:Op->Bool
 | .alloc _| .box .. =>true
 |_=>false
def xN0 (P:Program) (n0:Kp) (k:Nat) (d:Option Tmp) (e:Env) (σ:St) (op:Op):Bool:=
 (!zd1 e d||notL op)&&(k !=0||zd3 op==0)&&(k !=1||yX5 n0 e op)&&(!isSt (evOp P e σ op)||decide (3<=k))&&(k==4||(k==3&&xV6 op)|| !isSt (evOp P e σ op))
def xtop (P:Program) (call:zi5) (n0:Kp) (k:Nat) (d:Option Tmp) (e:Env) (σ:St) (op:Op):Option (V×St):=
 match op with
 | .call ⟨.value f,args,_⟩=>if k=0 then(match call (zF e f) (args.toList.map (zF e)) []with|some (v,_)=>if noS v&&noS (zF e f)&&(args.toList.map (zF e)).all noS then some (v,σ)else none|none=>none)
   else if k=4 then(match call (zF e f) (args.toList.map (zF e)) σ with|some (v,σ')=>if σ.length<=σ'.length then some (v,σ')else none|none=>none)
   else none
 |op=>if xN0 P n0 k d e σ op then xopR (yg6 P false e σ op) σ (evOp P e σ op)else none
def zt2 (P:Program) (call:zi5):Prop:= ∀fv as v σ',call fv as []=some (v,σ')->noS v=true->noS fv=true->as.all noS=true-> ∀c s,VC P c fv as s (fun r s'=>r=v/\s'=s)
theorem xK3 {P:Program} {call:zi5} (hc:zq8 P call) (hp:zt2 P call) {n0:Kp} {k:Nat} {d:Option Tmp} {e:Env} {σ σ':St} {op:Op} {v:V} {nt:Nat} {c:Ctx} {K:KT} (h:xtop P call n0 k d e σ op=some (v,σ')) (hk:vput nt d v K e σ'):vtop P c nt n0 k d op K e σ:=by
 unfold xtop at h
 unfold vtop
 split at h
 .split at h
  .rename_i hk0
   split at h
   .rename_i v' s' hcall
    split at h
    .rename_i hn
     cases h
     simp only[A4]at hn
     subst hk0
     refine⟨v,σ, ?_,fun _=>rfl,fun _=>KeepN.refl,A2 _,hk⟩
     rw[if_pos rfl]
     exact fun s=>hp _ _ _ _ hcall hn.1.1 hn.1.2 hn.2 c s
    .cases h
   .cases h
  .split at h
   .rename_i hk0 hk4
    split at h
    .rename_i v' s' hcall
     split at h
     .rename_i hle
      cases h
      subst hk4
      refine⟨v,σ', ?_,fun q=>by omega,fun q=>by omega,hle,hk⟩
      rw[if_neg (by decide),if_neg (by decide)]
      exact hc _ _ _ _ _ hcall c
     .cases h
    .cases h
   .cases h
 .rename_i hno
  split
  .exact absurd rfl (hno _ _ _)
  .split at h
   .rename_i ht
    simp only[xN0,A4,Bt,Ck,bne_iff_ne,beq_iff_eq,decide_eq_true_eq]at ht
    obtain⟨⟨⟨⟨t1,t2⟩,t3⟩,t4⟩,t5⟩:=ht
    have hh:hok P d e op:=by
     rcases t1 with t1|t1
     .exact .inl t1
     .exact .inr (xF8 t1)
    rw[zn8 hh]
    refine⟨fun _=>hh, ?_,fun q=>t2.resolve_left (fun w=>w q),fun q=> ?_,fun q=>t4.resolve_left (by rw[q];simp), ?_,yk4 (zS1 op) h hk⟩
    .cases hr:evOp P e σ op with
     |all f=>rw[hr]at h;cases h
     |any l=>rw[hr]at h;cases h
     |_=>rfl
    .have:=t3.resolve_left (fun w=>w q)
     unfold yX5 at this
     split at this
     .exact .inl ⟨_,_,rfl,this⟩
     .cases this
    .rcases t5 with (t5|t5)|t5
     .subst t5;exact zT9
     .obtain⟨t5,t6⟩:=t5
      subst t5
      cases op with
      |alloc t=>simp only[evOp];unfold zk4;split<;>first|trivial|exact⟨by simp,fun _=> .inl ⟨_,rfl⟩⟩
      |box t x=>simp only[evOp];unfold zN9;split<;>first|trivial|exact⟨by simp,fun _=> .inl ⟨_,rfl⟩⟩
      |_=>cases t6
     .exact zq1 t5
   .cases h
def xtr (P:Program) (call:zi5) (n0:Kp) (ms:List Nat) (ops:List Oper) (q:List (Nat×Nat)):Nat->List Oper->List V->St->Option (List V×St)
 |_,[],l,σ=>some (l,σ)
 |i,o::rest,l,σ=>
  match xgd o.guard ops (envX ms l)with
  |none=>none
  |some true=>(match xtop P call n0 (zY q i o) o.dst (envX ms l) σ o.op with
   |some (v,σ')=>(match xput o.dst v l with|some l'=>xtr P call n0 ms ops q (i+1) rest l' σ'|none=>none)
   |none=>none)
  |some false=>(match xput o.dst (.tup []) l with|some l'=>xtr P call n0 ms ops q (i+1) rest l' σ|none=>none)
theorem yT8 {P:Program} {call:zi5} (hc:zq8 P call) (hpu:zt2 P call) {n0:Kp} {ms:List Nat} {ops:List Oper} {q:List (Nat×Nat)} {c:Ctx}: ∀(rest:List Oper) (i:Nat) (l:List V) (σ:St) (l':List V) (σ':St),xtr P call n0 ms ops q i rest l σ=some (l',σ')->l.length<=100000->
  l'.length=l.length/\ ∀K:KT,K (envX ms l') σ'->vtr P c l.length n0 ops q i rest K (envX ms l) σ
 | [],i,l,σ,l',σ',h,hl=>by cases h;exact⟨rfl,fun K hk=>hk⟩
 |o::rest,i,l,σ,l',σ',h,hl=>by
  unfold xtr at h
  split at h
  .cases h
  .rename_i hg
   split at h
   .rename_i v s1 ho
    split at h
    .rename_i l1 hp
     obtain⟨e1,e2⟩:=ya4 (ms:=ms) hp hl
     obtain⟨e3,e4⟩:=yT8 hc hpu (c:=c) rest (i+1) l1 s1 l' σ' h (by omega)
     refine⟨by omega,fun K hk=> ?_⟩
     refine yA1 hg (fun _=> ?_) (fun q=>by cases q)
     refine xK3 hc hpu ho (e2 _ _ ?_)
     have:=e4 K hk
     rwa [e1]at this
    .cases h
   .cases h
  .rename_i hg
   split at h
   .rename_i l1 hp
    obtain⟨e1,e2⟩:=ya4 (ms:=ms) hp hl
    obtain⟨e3,e4⟩:=yT8 hc hpu (c:=c) rest (i+1) l1 σ l' σ' h (by omega)
    refine⟨by omega,fun K hk=> ?_⟩
    refine yA1 hg (fun q=>by cases q) (fun _=> ?_)
    refine e2 _ _ ?_
    have:=e4 K hk
    rwa [e1]at this
   .cases h
def yt6:Nat->List Oper->List (Nat×Nat)
 |_,[]=> []
 |i,o::os=>(match o.op with| .call ⟨.value _,_,_⟩=> [(i,0)]|_=> [])++yt6 (i+1) os
def yj0:Nat->List Oper->List (Nat×Nat)
 |_,[]=> []
 |i,o::os=>(match o.op with| .store .. => [(i,4)]| .call ⟨.builtin .append,_,_⟩=> [(i,4)]|_=> [])++yj0 (i+1) os
def xM8:Nat->List Oper->List (Nat×Nat)
 |_,[]=> []
 |i,o::os=>(match o.op with| .store .. => [(i,4)]| .call ⟨.builtin .append,_,_⟩=> [(i,4)]| .call ⟨.value _,_,_⟩=> [(i,4)]|_=> [])++xM8 (i+1) os
def xz8:Nat->List Oper->List (Nat×Nat)
 |_,[]=> []
 |i,o::os=>(match o.op with| .store .. => [(i,4)]| .load .. => [(i,4)]| .alloc _=> [(i,4)]| .call ⟨.builtin .append,_,_⟩=> [(i,4)]| .call ⟨.value _,_,_⟩=> [(i,4)]|_=> [])++xz8 (i+1) os
def xA6 (ops:List Oper):List (List (Nat×Nat)):= [[],yt6 0 ops,yj0 0 ops,yt6 0 ops++yj0 0 ops,xM8 0 ops,xz8 0 ops]
def yA0 (P:Program) (call:zi5) (ms:List Nat) (ops:List Oper) (l:List V) (σ:St):List (List (Nat×Nat))->Option (List V×St)
 | []=>none
 |q::qs=>if zy4 ops q then(match xtr P call (Kp.pre σ.length) ms ops q 0 ops l σ with|some r=>some r|none=>yA0 P call ms ops l σ qs)else yA0 P call ms ops l σ qs
def xA7 (P:Program) (call:zi5) (ms:List Nat) (ops:List Oper) (l:List V) (σ:St):Option (List V×St):=
 if zc3 ops then yA0 P call ms ops l σ (xA6 ops)else none
theorem yL9 {P:Program} {call:zi5} (hc:zq8 P call) (hpu:zt2 P call) (hm:P.follows .mixedOrders=true) {ms:List Nat} {ops:List Oper} {c:Ctx} {id:Nat} {l l':List V} {σ σ':St} (h:xA7 P call ms ops l σ=some (l',σ')) (hl:l.length<=100000):
  l'.length=l.length/\ ∀Q:QT,Q .normal (envX ms l') σ'->VW P c l.length (.region id ops.toArray true) Q (envX ms l) σ:=by
 unfold xA7 at h
 split at h
 .rename_i he
  have go: ∀q,zy4 ops q=true->xtr P call (Kp.pre σ.length) ms ops q 0 ops l σ=some (l',σ')->l'.length=l.length/\ ∀Q:QT,Q .normal (envX ms l') σ'->VW P c l.length (.region id ops.toArray true) Q (envX ms l) σ:=by
   intro q hd hx
   obtain⟨e1,e2⟩:=yT8 hc hpu (c:=c) ops 0 l σ l' σ' hx hl
   exact⟨e1,fun Q hq=>yU q σ.length rfl hm (by rw[hd,he];rfl) (e2 (Q .normal) hq)⟩
  generalize xA6 ops=qs at h
  induction qs with
  |nil=>cases h
  |cons q qs ih=>
   unfold yA0 at h
   split at h
   .rename_i hd
    split at h
    .rename_i r hx
     cases h
     exact go _ hd hx
    .exact ih h
   .exact ih h
 .cases h
abbrev RunT:=List Nat->Code->List V->St->Option (Exit×List V×St)
def xL7:Exit->Bool
 | .normal| .ret=>true
 |_=>false
def zL2 (P:Program) (H:FuncId->List Nat) (run:RunT):zi5:=fun fv as σ=>
 match fv with
 | .fn f caps=>(match P.funcs[f]? with
  |some fn=>(match fn.body with
   |some code=>if decide ((as++caps).length<=fn.ntmps)&&decide (fn.ntmps<=100000)then
     (match run (H f) code ((as++caps)++List.replicate (fn.ntmps - (as++caps).length) .u) σ with
     |some (x,l',σ')=>if xL7 x&&decide (σ.length<=σ'.length)then(match retV P fn.results.toList (envX (H f) l') σ' with|some v=>some (v,σ')|none=>none)else none
     |none=>none)else none
   |none=>none)
  |none=>none)
 |_=>none
def orT (T call:zi5):zi5:=fun fv as σ=>match T fv as σ with|some r=>some r|none=>call fv as σ
theorem xR3 {P:Program} {T call:zi5} (hT:zq8 P T) (hc:zq8 P call):zq8 P (orT T call):=by
 intro fv as σ v σ' h c
 unfold orT at h
 split at h
 .rename_i r hr
  cases h
  exact hT _ _ _ _ _ hr c
 .exact hc _ _ _ _ _ h c
theorem xu8 {P:Program} {T call:zi5} (hT: ∀fv as,T fv as []=none) (hc:zt2 P call):zt2 P (orT T call):=by
 intro fv as v σ' h
 unfold orT at h
 rw[hT]at h
 exact hc fv as v σ' h
def noT:zi5:=fun _ _ _=>none
theorem xt3 {P:Program}:zq8 P noT:=fun _ _ _ _ _ h=>by cases h
def zn6 (P:Program) (T:zi5) (H:FuncId->List Nat) (run:RunT):RunT:=fun ms code l σ=>
 match code with
 | .skip=>some (.normal,l,σ)
 | .label _=>some (.normal,l,σ)
 | .exit id=>some (.exit id,l,σ)
 | .ret=>some (.ret,l,σ)
 | .seq x y=>(match run ms x l σ with
  |some (.normal,l',σ')=>run ms y l' σ'
  |r=>r)
 | .cond x t f=>(match zF (envX ms l) x with| .bool true=>run ms t l σ| .bool false=>run ms f l σ|_=>none)
 | .block id b=>(match run ms b l σ with
  |some (.exit id',l',σ')=>if id'=id then some (.normal,l',σ')else some (.exit id',l',σ')
  |r=>r)
 | .region _ ops draw=>if draw then(match xA7 P (orT T (zL2 P H run)) ms ops.toList l σ with|some (l',σ')=>some (.normal,l',σ')|none=>none)
   else(match yM1 P (orT T (zL2 P H run)) ms ops.toList ops.toList l σ with|some (l',σ')=>some (.normal,l',σ')|none=>none)
 | .loop b=>(match run ms b l σ with
  |some (.normal,l',σ')=>run ms (.loop b) l' σ'
  |r=>r)
 |_=>none
def zH9 (P:Program) (T:zi5) (H:FuncId->List Nat):Nat->RunT
 |0=>fun _ _ _ _=>none
 |n+1=>zn6 P T H (zH9 P T H n)
def xp7:Exit->Bool
 | .normal| .ret| .exit _=>true
 |_=>false
def yA6 (P:Program) (run:RunT):Prop:= ∀ms code l σ x l' σ',run ms code l σ=some (x,l',σ')->l.length<=100000->
 l'.length=l.length/\xp7 x=true/\ ∀(c:Ctx) (Q:QT),Q x (envX ms l') σ'->VW P c l.length code Q (envX ms l) σ
theorem xo4 {l:List V} (hl:l.length<=100000) (n:Nat):envX [] (l++List.replicate n .u)=envA 0 l:=by
 funext t
 have e1:=yb3 l 0 t
 rw[Aa]at e1
 rw[e1]
 unfold envX
 by_cases ht:t<l.length
 .rw[if_pos (by omega),A5,A5,Ab ht]
 .have e2:l.getD t .u= .u:=by rw[A5,Bc (by omega)];rfl
  rw[e2]
  split
  .rw[A5,Ai (by omega),List.getElem?_replicate]
   split<;>rfl
  .simp
theorem xd9 {t:Nat} {ms:List Nat} {l:List V}:upd (envX ms l) (100000+t) (.tup [])=envX (t::ms) l:=by
 funext k
 unfold upd envX
 by_cases hk:k=100000+t
 .rw[if_pos hk,if_neg (by omega),if_pos (by rw[hk];simp)]
 .rw[if_neg hk]
  by_cases h0:k<100000
  .rw[if_pos h0,if_pos h0]
  .have h2:(k - 100000==t)=false:=by simp;omega
   rw[if_neg h0,if_neg h0,Dw,h2,C8]
theorem VW.marks {P:Program} {c:Ctx} {nt:Nat} {code:Code} {Q:QT} {l:List V} {σ:St} (hn:nt<=100000) (ms:List Nat) (h:VW P c nt code Q (envX ms l) σ):VW P c nt code Q (envX [] l) σ:=by
 induction ms with
 |nil=>exact h
 |cons t ms ih=>
  refine ih ?_
  have h2:=zv7 (P:=P) (c:=c) (nt:=nt) (Q:=Q) (e:=envX ms l) (σ:=σ) t (y:=code) hn
  rw[xd9]at h2
  exact h2 h
theorem zD3 {k i:Nat}:ren (List.range k) k i=i:=by
 by_cases h:i<k
 .exact ze1 h
 .rw[zq9 (by simp;omega)];simp;omega
theorem xh9 {n0:Nat} {σ:St} (h:n0<=σ.length):Picks n0 (List.range σ.length) σ σ:=by
 refine⟨by simp,C3,fun i j o hi ho=> ?_,fun i hi=>by rw[Cw (by omega)]⟩
 obtain⟨h1,h2⟩:=A1.1 hi
 simp at h1 h2
 subst h2
 rw[zp9 (fun i=>zD3)]
 exact ho
theorem zs0 {P:Program} {H:FuncId->List Nat} {run:RunT} (hr:yA6 P run) {f:FuncId} {caps as:List V} {σ σ':St} {v:V} (h:zL2 P H run (.fn f caps) as σ=some (v,σ')):
  VCalls P f (as++caps) σ (fun r s=>r=v/\s=σ')/\(P.funcs[f]?.bind (·.body)).isSome=true/\(σ= []->noS v=true->VCalls P f (as++caps) σ (fun r s=>r=v/\s= [])):=by
 unfold zL2 at h
 simp only at h
 split at h
 .rename_i fn hf
  split at h
  .rename_i code hb
   split at h
   .rename_i hlen
    simp only[A4,decide_eq_true_eq]at hlen
    split at h
    .rename_i x l' s1 hx
     split at h
     .rename_i hret
      simp only[A4,decide_eq_true_eq]at hret
      split at h
      .rename_i v' hv
       cases h
       have hll:((as++caps)++List.replicate (fn.ntmps - (as++caps).length) V.u).length=fn.ntmps:=by
        rw[Aw,List.length_replicate];omega
       obtain⟨e1,e2,e3⟩:=hr _ _ _ _ _ _ _ hx (by omega)
       have key: ∀R:V->St->Prop,VRet σ.length R v σ'->VCalls P f (as++caps) σ R:=by
        intro R hR
        refine VCalls.introW (rs:=fn.results.toList) σ.length hf rfl (by simp) hb rfl hlen.1 fun c _ _=> ?_
        rw[<-xo4 (by omega) (fn.ntmps - (as++caps).length)]
        refine VW.marks hlen.2 (H f) ?_
        have:=e3 c (retQ P fn.results.toList σ.length R)
        rw[hll]at this
        refine this ?_
        have hq: ∃v,retV P fn.results.toList (envX (H f) l') σ'=some v/\VRet σ.length R v σ':=⟨v,hv,hR⟩
        cases x with
        |normal=>exact hq
        |ret=>exact hq
        |_=>simp[xL7]at hret
       refine⟨key _ ⟨v,σ',List.range σ'.length,σ',v,.refl _ _,xh9 hret.2,.inl (zx7 (fun i=>zD3) v).symm,rfl,rfl⟩, ?_,fun h0 hn=> ?_⟩
       .rw[hf]
        show(fn.body).isSome=true
        rw[hb];rfl
       .subst h0
        refine key _ ⟨v,σ',[],[],v,.refl _ _,⟨rfl,D5,fun i j o h=>by simp at h,fun i h=>absurd h (Bg i)⟩,zC hn,rfl,rfl⟩
      .cases h
     .cases h
    .cases h
   .cases h
  .cases h
 .cases h
theorem xg2 {σ s:St} (h:σ.length<=s.length):xE (List.range σ.length) σ s=s:=by
 have hid:yN (ren (List.range σ.length) σ.length)=fun o=>o:=funext fun o=>zp9 (fun i=>zD3) o
 apply C4
 intro i
 by_cases hi:i<s.length
 .have:=zt1 (sel:=List.range σ.length) (σc:=σ) (σ':=s) C3 (fun q hq=>C7.1 hq) (by simpa using h) (A0 hi)
  rw[zD3,hid]at this
  rw[this,A0 hi]
 .have hl:(xE (List.range σ.length) σ s).length=s.length:=by rw[zs7];simp;omega
  rw[Bc (by omega),Bc (by omega)]
theorem yB6 {P:Program} {f:FuncId} (hN:(P.funcs.all fun fn=> !(fn.name== "runtime.NumGoroutine"))=true) (h:(P.funcs[f]?.bind (·.body)).isSome=true):wS P f=true:=by
 unfold wS
 cases hf:P.funcs[f]? with
 |none=>rw[hf]at h;cases h
 |some fn=>
  rw[hf]at h
  simp only[As]at h
  have h1:(!(fn.name== "runtime.NumGoroutine"))=true:=by
   obtain⟨hl,he⟩:=Ap.1 hf
   have:=Array.all_eq_true.1 hN f hl
   rw[he]at this
   exact this
  simp only[h1,h,Bool.and_self]
theorem xd0 {P:Program} {H:FuncId->List Nat} {run:RunT} (hr:yA6 P run) (hN:(P.funcs.all fun fn=> !(fn.name== "runtime.NumGoroutine"))=true):zq8 P (zL2 P H run):=by
 intro fv as σ v σ' h c
 cases fv with
 |fn f caps=>
  obtain⟨h1,h2,_⟩:=zs0 hr h
  refine VC.of h1 (yB6 hN h2) (List.range σ.length) C3 (by simp) (fun i j o hi ho=> ?_) ?_ ?_
  .obtain⟨h3,h4⟩:=A1.1 hi
   simp at h3 h4
   subst h4
   rw[zp9 (fun i=>zD3)];exact ho
  .have: ∀l:List V,All2 (argS (ren (List.range σ.length) σ.length)) l l:=by
    intro l
    induction l with
    |nil=>trivial
    |cons a l ih=>exact⟨.inl (zx7 (fun i=>zD3) a).symm,ih⟩
   exact this _
  .rintro r s ⟨rfl,rfl⟩ hl
   rw[zx7 (fun i=>zD3),xg2 (by simpa using hl)]
   exact⟨rfl,rfl⟩
 |_=>cases h
theorem yB7 {P:Program} {H:FuncId->List Nat} {run:RunT} (hr:yA6 P run) (hN:(P.funcs.all fun fn=> !(fn.name== "runtime.NumGoroutine"))=true):zt2 P (zL2 P H run):=by
 intro fv as v σ' h hn hf ha c s
 cases fv with
 |fn f caps=>
  obtain⟨_,h2,h3⟩:=zs0 hr h
  have hcn:caps.all noS=true:=by
   simp only[noS,noA,noC]at hf
   rw[Af]at hf⊢
   intro x hx
   have:=hf x hx
   cases x<;>first|exact this|cases this
  refine zD (P:=P) (c:=c) (KV:=fun r s'=>r=v/\s'=s) (h3 rfl hn) (yB6 hN h2) (zH (by rw[Ea,ha,hcn];rfl)) hn ⟨rfl,rfl⟩
 |_=>cases h
section
variable {P:Program} {T:zi5} {H:FuncId->List Nat}
theorem yM0 {ms:List Nat} {b:Code} {x:Exit} {l':List V} {σ':St} {N nt:Nat} (hk: ∀k,k<=N->yA6 P (zH9 P T H k)) (hnt:nt<=100000) {c:Ctx} {Q:QT} (hx:xp7 x=true) (hQ:Q x (envX ms l') σ')
  {l:List V} {σ:St} (h:zH9 P T H (N+1) ms (.loop b) l σ=some (x,l',σ')) (hl:l.length=nt):VW P c nt (.loop b) Q (envX ms l) σ:=by
 intro a w L β hs
 refine zX3 (fun m a w=> ∃l σ L β,m<=N+1/\l.length=nt/\zH9 P T H m ms (.loop b) l σ=some (x,l',σ')/\Sim c nt (envX ms l) σ a w L β) (N+1) ⟨l,σ,L,β,A2 _,hl,h,hs⟩ ?_
 rintro m a w ⟨l,σ,L,β,hm,hl,h,hs⟩
 cases m with
 |zero=>cases h
 |succ k=>
  have h:zn6 P T H (zH9 P T H k) ms (.loop b) l σ=some (x,l',σ'):=h
  simp only[zn6]at h
  split at h
  .rename_i l1 σ1 hb
   obtain⟨e1,e2,e3⟩:=hk k (by omega) _ _ _ _ _ _ _ hb (by omega)
   have e4:=e3 c (fun ex e s=>ex= .normal/\e=envX ms l1/\s=σ1) ⟨rfl,rfl,rfl⟩
   rw[hl]at e4
   refine wp_mono (e4 a w L β hs) fun ex a' w' q=> ?_
   cases ex with
   |normal=>
    obtain⟨e',s',L',β',hs',_,rfl,rfl⟩:=q
    exact⟨k,Ek k,l1,s',L',β',by omega,by omega,h,hs'⟩
   |exit id=>obtain⟨_,_,_,_,_,q,_⟩:=q;cases q
   |ret=>obtain⟨_,_,_,_,_,q,_⟩:=q;cases q
   |goto _=>exact q.elim
   |panic _=>exact q.elim
   |outgrown=>exact q.elim
  .rename_i hno
   obtain⟨e1,e2,e3⟩:=hk k (by omega) _ _ _ _ _ _ _ h (by omega)
   have e4:=e3 c (fun ex e s=>ex=x/\e=envX ms l'/\s=σ') ⟨rfl,rfl,rfl⟩
   rw[hl]at e4
   refine wp_mono (e4 a w L β hs) fun ex a' w' q=> ?_
   cases ex with
   |normal=>
    obtain⟨e',s',L',β',hs',q,_,_⟩:=q
    subst q
    exact absurd h (hno _ _)
   |exit id=>obtain⟨e',s',L',β',hs',rfl,rfl,rfl⟩:=q;exact⟨_,_,L',β',hs',hQ⟩
   |ret=>obtain⟨e',s',L',β',hs',rfl,rfl,rfl⟩:=q;exact⟨_,_,L',β',hs',hQ⟩
   |goto _=>exact q.elim
   |panic _=>exact q.elim
   |outgrown=>exact q.elim
theorem yL8 (hT:zq8 P T) (hT0: ∀fv as,T fv as []=none) (hN:(P.funcs.all fun fn=> !(fn.name== "runtime.NumGoroutine"))=true) (hm:P.follows .mixedOrders=true): ∀n k,k<=n->yA6 P (zH9 P T H k):=by
 intro n
 induction n with
 |zero=>
  intro k hk
  have:k=0:=by omega
  subst this
  intro ms code l σ x l' σ' h
  cases h
 |succ n ih=>
  intro k hk
  rcases Cf k (n+1)with hlt|hge
  .exact ih k (by omega)
  have:k=n+1:=by omega
  subst this
  have ihn:=ih n (A2 n)
  have hc:zq8 P (orT T (zL2 P H (zH9 P T H n))):=xR3 hT (xd0 ihn hN)
  have hpu:zt2 P (orT T (zL2 P H (zH9 P T H n))):=xu8 hT0 (yB7 ihn hN)
  intro ms code l σ x l' σ' h0 hl
  have h:zn6 P T H (zH9 P T H n) ms code l σ=some (x,l',σ'):=h0
  cases code with
  |skip=>simp only[zn6]at h;cases h;exact⟨rfl,rfl,fun c Q hQ=>zf4 .skip Q _ _ hQ⟩
  |label s=>simp only[zn6]at h;cases h;exact⟨rfl,rfl,fun c Q hQ=>zf4 (.label s) Q _ _ hQ⟩
  |exit id=>simp only[zn6]at h;cases h;exact⟨rfl,rfl,fun c Q hQ=>zf4 (.exit id) Q _ _ hQ⟩
  |ret=>simp only[zn6]at h;cases h;exact⟨rfl,rfl,fun c Q hQ=>zf4 .ret Q _ _ hQ⟩
  |seq x1 y1=>
   simp only[zn6]at h
   split at h
   .rename_i l1 σ1 hb
    obtain⟨e1,e2,e3⟩:=ihn _ _ _ _ _ _ _ hb hl
    obtain⟨f1,f2,f3⟩:=ihn _ _ _ _ _ _ _ h (by omega)
    refine⟨by omega,f2,fun c Q hQ=> ?_⟩
    refine zQ9 (K:=fun e s=>e=envX ms l1/\s=σ1) (e3 c _ ⟨rfl,rfl⟩) ?_
    rintro e' s' ⟨rfl,rfl⟩
    have:=f3 c Q hQ
    rwa [e1]at this
   .rename_i hno
    obtain⟨e1,e2,e3⟩:=ihn _ _ _ _ _ _ _ h hl
    refine⟨e1,e2,fun c Q hQ=> ?_⟩
    refine zQ9 (K:=fun _ _=>False) (e3 c _ ?_) (fun _ _ q=>q.elim)
    show xy2 _ Q x _ _
    cases x with
    |normal=>exact absurd h (hno _ _)
    |_=>exact hQ
  |cond y t f=>
   simp only[zn6]at h
   split at h
   .rename_i hy
    obtain⟨e1,e2,e3⟩:=ihn _ _ _ _ _ _ _ h hl
    exact⟨e1,e2,fun c Q hQ=>zQ8 hy (fun _=>e3 c Q hQ) (fun q=>by cases q)⟩
   .rename_i hy
    obtain⟨e1,e2,e3⟩:=ihn _ _ _ _ _ _ _ h hl
    exact⟨e1,e2,fun c Q hQ=>zQ8 hy (fun q=>by cases q) (fun _=>e3 c Q hQ)⟩
   .cases h
  |block id b=>
   simp only[zn6]at h
   split at h
   .rename_i id' l1 σ1 hb
    obtain⟨e1,e2,e3⟩:=ihn _ _ _ _ _ _ _ hb hl
    split at h
    .rename_i hid
     cases h
     refine⟨e1,rfl,fun c Q hQ=>zg0 (e3 c _ ?_)⟩
     show(if id'=id then Q .normal _ _ else Q (.exit id') _ _)
     rw[if_pos hid];exact hQ
    .rename_i hid
     cases h
     refine⟨e1,rfl,fun c Q hQ=>zg0 (e3 c _ ?_)⟩
     show(if id'=id then Q .normal _ _ else Q (.exit id') _ _)
     rw[if_neg hid];exact hQ
   .rename_i hno
    obtain⟨e1,e2,e3⟩:=ihn _ _ _ _ _ _ _ h hl
    refine⟨e1,e2,fun c Q hQ=>zg0 (e3 c _ ?_)⟩
    show blkV id Q x _ _
    cases x with
    |exit id'=>exact absurd h (hno _ _ _)
    |_=>exact hQ
  |region id ops draw=>
   cases draw with
   |true=>
    simp only[zn6,if_true]at h
    split at h
    .rename_i l1 σ1 hx
     cases h
     refine⟨(yL9 hc hpu hm (c:=⟨default,fun _=>0,[],[],[]⟩) (id:=id) hx hl).1,rfl,fun c Q hQ=> ?_⟩
     have:=(yL9 hc hpu hm (c:=c) (id:=id) hx hl).2 Q hQ
     simpa using this
    .cases h
   |false=>
    simp only[zn6,Bf,if_false]at h
    split at h
    .rename_i l1 σ1 hx
     cases h
     refine⟨(zR2 hc (c:=⟨default,fun _=>0,[],[],[]⟩) _ _ _ _ _ hx hl).1,rfl,fun c Q hQ=> ?_⟩
     have:=(zR2 hc (c:=c) _ _ _ _ _ hx hl).2 (Q .normal) hQ
     exact zf4 _ _ _ _ (show zy0 P c l.length (.region id ops false) Q _ σ from by unfold zy0;simpa using this)
    .cases h
  |loop b=>
   have hh:=h
   simp only[zn6]at h
   split at h
   .rename_i l1 σ1 hb
    obtain⟨e1,e2,e3⟩:=ihn _ _ _ _ _ _ _ hb hl
    obtain⟨f1,f2,f3⟩:=ihn _ _ _ _ _ _ _ h (by omega)
    exact⟨by omega,f2,fun c Q hQ=>yM0 ih hl f2 hQ h0 rfl⟩
   .obtain⟨e1,e2,e3⟩:=ihn _ _ _ _ _ _ _ h hl
    exact⟨e1,e2,fun c Q hQ=>yM0 ih hl e2 hQ h0 rfl⟩
  |rangeFunc _ _ _ _=>simp only[zn6]at h;cases h
  |scope _=>simp only[zn6]at h;cases h
  |goto _=>simp only[zn6]at h;cases h
  |refuse _=>simp only[zn6]at h;cases h
theorem xd1 (hN:(P.funcs.all fun fn=> !(fn.name== "runtime.NumGoroutine"))=true) (hm:P.follows .mixedOrders=true) (H:FuncId->List Nat) (n:Nat) {f:FuncId} {as:List V} {σ σ':St} {v:V} (h:zL2 P H (zH9 P noT H n) (.fn f []) as σ=some (v,σ')):
  VCalls P f as σ (fun r s=>r=v/\s=σ'):=by
 have:=(zs0 (yL8 xt3 (fun _ _=>rfl) hN hm n n (A2 n)) h).1
 rwa [B7]at this
def xM9 (P:Program) (H:FuncId->List Nat) (n:Nat) (f:FuncId) (as:List V):Option V:=
 match zL2 P H (zH9 P noT H n) (.fn f []) as []with
 |some (v,_)=>if noS v then some v else none
 |none=>none
theorem zm6 (hN:(P.funcs.all fun fn=> !(fn.name== "runtime.NumGoroutine"))=true) (hm:P.follows .mixedOrders=true) (H:FuncId->List Nat) (n:Nat) {f:FuncId} {as:List V} {v:V} (h:xM9 P H n f as=some v):Pure P f as v:=by
 unfold xM9 at h
 split at h
 .rename_i v' s hx
  split at h
  .rename_i hn
   cases h
   have:=(zs0 (yL8 xt3 (fun _ _=>rfl) hN hm n n (A2 n)) hx).2.2 rfl hn
   rwa [B7]at this
  .cases h
 .cases h
end
section
variable {P:Program} {c:Ctx} {nt:Nat} {n0:Kp} {K:KT} {e:Env} {σ:St} {d:Option Tmp}
@[go_sem] theorem wop_mapEntry {t:TypeId} {x k:Operand}:wop P c nt d (.mapEntry t x k) K fx fx e σ=wfin nt d (xQ (mapT P t) σ (zF e x) (zF e k)) K fx e σ:=(yV rfl rfl).trans rfl
@[go_sem] theorem wop_entryStore {t:TypeId} {x s v:Operand}:wop P c nt d (.entryStore t x s v) K fx fx e σ=wfin nt d (xI σ (zF e x) (zF e s) (zF e v)) K fx e σ:=(yV rfl rfl).trans rfl
@[go_sem] theorem wop_entry {x:Operand}:wop P c nt d (.entry x) K fx fx e σ=wfin nt d (zh9 σ (zF e x)) K fx e σ:=(yV rfl rfl).trans rfl
@[go_sem] theorem wop_ifc {t:TypeId} {x:Operand}:wop P c nt d (.makeInterface t x) K fx fx e σ=wfin nt d (zV5 (yp1 P t) t (zF e x)) K fx e σ:=(yV rfl rfl).trans rfl
@[go_sem] theorem wtop_lookup {t:TypeId} {x k:Operand} {ok:Bool}:wtop P c nt n0 4 d (.lookup t x k ok) K fx fx e σ=wop P c nt d (.lookup t x k ok) K fx fx e σ:=zR1 (fun _ _ _ _ _ h=>by cases h) (fun _ _ h=>by cases h) (fun _ _=>rfl) (fun _ _ _ h=>by cases h)
@[go_sem] theorem wtop_mapUpdate {t:TypeId} {x k v:Operand}:wtop P c nt n0 4 d (.mapUpdate t x k v) K fx fx e σ=wop P c nt d (.mapUpdate t x k v) K fx fx e σ:=zR1 (fun _ _ _ _ _ h=>by cases h) (fun _ _ h=>by cases h) (fun _ _=>rfl) (fun _ _ _ h=>by cases h)
@[go_sem] theorem wtop_entryStore {t:TypeId} {x s v:Operand}:wtop P c nt n0 4 d (.entryStore t x s v) K fx fx e σ=wop P c nt d (.entryStore t x s v) K fx fx e σ:=zR1 (fun _ _ _ _ _ h=>by cases h) (fun _ _ h=>by cases h) (fun _ _=>rfl) (fun _ _ _ h=>by cases h)
theorem zn3 {t:TypeId} {x k:Operand} (h2:stOk n0 3 σ (xQ (mapT P t) σ (zF e x) (zF e k))) (h:wop P c nt d (.mapEntry t x k) K fx fx e σ):wtop P c nt n0 3 d (.mapEntry t x k) K fx fx e σ:=by
 rw[zy2 (fun _ _ _ _ _ h=>by cases h) (fun _ _=>rfl) h2 (fun _ _ _ h=>by cases h)];exact h
theorem zB1 {t:TypeId} {x s v:Operand} (h2:stOk n0 3 σ (xI σ (zF e x) (zF e s) (zF e v))) (h:wop P c nt d (.entryStore t x s v) K fx fx e σ):wtop P c nt n0 3 d (.entryStore t x s v) K fx fx e σ:=by
 rw[zy2 (fun _ _ _ _ _ h=>by cases h) (fun _ _=>rfl) h2 (fun _ _ _ h=>by cases h)];exact h
theorem zO1 {m:Option (Kk×V)} {id:Nat} {kv:V} {ok:Bool} {g:Ob->R} (hg:g=fun o=>xO m [o] (.mp 0) kv ok) (s:St):xO m s (.mp id) kv ok=match s[id]?.map g with
  |some r=>r
  |none=>xO m [] (.mp 0) kv ok:=by
 subst hg
 unfold xO
 cases m with
 |none=>cases s[id]? <;>rfl
 |some p=>
  obtain⟨kd,z⟩:=p
  by_cases hk:zm4 kd kv=true
  .cases h:s[id]? <;>simp[hk,h]
  .cases h:s[id]? <;>simp[hk,h]
theorem yk3 {t:TypeId} {x k:Operand} {ok:Bool} {id:Nat} {kv:V} {m:Option (Kk×V)} {g:Ob->R} (hx:zF e x= .mp id) (hk:zF e k=kv) (hm:mapT P t=m) (hg:g=fun o=>xO m [o] (.mp 0) kv ok) (hob:n0.ob=some (id,g)) (hn:id<n0.n) {v:V} (hv:xO m σ (.mp id) kv ok= .ok v)
  (h:wput nt d v K fx e σ):wtop P c nt n0 1 d (.lookup t x k ok) K fx fx e σ:=by
 have hop: ∀s,evOp P e s (.lookup t x k ok)=xO m s (.mp id) kv ok:=fun s=>by simp only[evOp,hx,hk,hm]
 have hsem: ∀s,n0.of s=n0.of σ->evOp P e s (.lookup t x k ok)=evOp P e σ (.lookup t x k ok):=fun s hs=>by
  rw[hop s,hop σ,zO1 hg s,zO1 hg σ]
  have h2:=congrArg Prod.snd hs
  unfold Kp.of at h2
  simp only[hob,As,Ae,if_pos hn]at h2
  rw[h2]
 show vtop P c nt n0 1 d (.lookup t x k ok) K e σ
 have h1:=ze6 (P:=P) (e:=e) (σ:=σ) (.lookup t x k ok) (fun _ _ _ _ _ h=>by cases h)
 have h0:isSt (evOp P e σ (.lookup t x k ok))=false:=by simp only[evOp];unfold xO;(repeat' split)<;>rfl
 have hh:hok P d e (.lookup t x k ok):= .inr fun _ _=>rfl
 unfold vtop
 refine⟨fun _=>hh,by rw[zn8 hh];exact h1,fun q=>by simp at q,fun _=> .inr ⟨fun _ _ h=>(by cases h),hsem⟩,fun q=>absurd q (by rw[zn8 hh,h0];decide),by rw[zn8 hh];exact zq1 h0, ?_⟩
 rw[zn8 hh,hop σ,hv]
 exact h
@[go_sem] theorem Kp.has_ex {n id:Nat} {ex:List Nat} {ob:Option (Nat×(Ob->R))}:(Kp.mk 0 n ex ob).has id=(decide (id<n)&& !ex.contains id):=by simp[Kp.has]
theorem yB {n0:Nat} {keep:List Nat} {vs:List V} {e:Env} {σ:St} (hn:n0<=σ.length) (h:keep.map e=vs):At n0 keep vs σ e σ:=by
 have ra: ∀i,ren (List.range σ.length) σ.length i=i:=fun i=>by
  by_cases h:i<σ.length
  .exact ze1 h
  .rw[zq9 (by simp;omega)];simp;omega
 refine⟨List.range σ.length,⟨by simp,C3,fun i j o hi ho=> ?_,fun i hi=>by rw[Cw (by omega)]⟩, ?_⟩
 .obtain⟨h1,h2⟩:=A1.1 hi
  simp at h1 h2
  subst h2
  rw[zp9 ra]
  exact ho
 .rw[h]
  have: ∀l:List V,All2 (argS (ren (List.range σ.length) σ.length)) l l:=by
   intro l
   induction l with
   |nil=>trivial
   |cons a l ih=>exact⟨.inl (zx7 ra a).symm,ih⟩
  exact this _
theorem yz5 {id:Nat} {ops:List Oper} {Q:QT} (q:List (Nat×Nat)) (k:Kp) (hn:k.n<=σ.length) (hm:P.follows .mixedOrders=true) (hd:(zy4 ops q&&zc3 ops)=true) (h:wtr P c nt k ops q 0 ops (Q .normal) fx fx fx e σ):wVW P c nt (.region id ops.toArray true) Q fx fx e σ:=by
 simp only[A4]at hd
 obtain⟨tr,ht,hK⟩:=zo3 ops 0 (Q .normal) e σ h
 exact VW.draw (n0:=k) hm hn hd.1 hd.2 ht hK
end
end Go.Vx
