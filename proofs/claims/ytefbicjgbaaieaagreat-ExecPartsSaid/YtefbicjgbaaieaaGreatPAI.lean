/-
  Rules of the walk for maps: an entry that is laid for `m[k] op= v`, looked at and laid in regions whose order is open.
  No condition: a library text; nothing of the program is named.
-/
import Derived.Test.YtefbicjgbaaieaaGreatPAG
import Derived.Test.YtefbicjgbaaieaaGreatPAH
set_option maxHeartbeats 8000000
namespace Go.Vx
open Go
variable {P:Program}{σ:St}{e:Env}{σ':St}{l:List V}{nt:Nat}{d:Option Tmp}{K:KT}{op:Op}{ms:List Nat}{c:Ctx}{H:FuncId->List Nat}
def yF (b:Bool):R->Prop
 | .need p _=>b=true->p
 | .needst p _ _=>b=true->p
 |_=>True
def uniB (s:Nat) (rows:List (List V)):Bool:=rows.all fun r=>r.length==s
theorem zo1 {s:Nat} {rows:List (List V)} (h:uniB s rows=true):uni s rows:=fun r hr=>by
 have:=Aj.1 h r hr
 simpa using this
def xn8:List V->Bool
 | [.int .u8 _]=>true
 |_=>false
theorem xn9 {rows:List (List V)} (h:rows.all xn8=true):zP3 rows:=fun r hr=>by
 have:=Aj.1 h r hr
 unfold xn8 at this
 split at this
 .exact⟨_,rfl⟩
 .cases this
def zZ1 (op:BinOp) (y:Int):Bool:=
 match op with
 | .quo| .rem=>decide (y≠0)
 | .shl| .shr=>decide (0<=y)
 |_=>true
def yy6 (op:BinOp) (x y:List UInt8):Bool:=
 match op with
 | .add=>decide (x.length+y.length<=9223372036854775807)
 |_=>true
def binB (op:BinOp) (x y:V):Bool:=
 match x,y with
 | .int _ _,.int _ b=>zZ1 op b
 | .str a,.str b=>yy6 op a b
 |_,_=>true
theorem yF0 (op:BinOp) (k:IntKind) (x y:Int):yF (zZ1 op y) (zM5 op k x y):=by
 cases op<;>simp[zM5,zZ1,yF]
theorem yK6 (op:BinOp) (x y:List UInt8):yF (yy6 op x y) (zN5 op x y):=by
 cases op<;>simp[zN5,yy6,yF]
theorem xn3 (op:BinOp) (ek:Nat) (es:Option (List Pk)) (x y:V):yF (binB op x y) (zs8 op ek es x y):=by
 unfold zs8
 split
 .simp only[binB]
  split
  .exact yF0 ..
  .cases op<;>simp[zZ1,yF]
 .exact yK6 ..
 all_goals (repeat' split)<;>trivial
theorem yQ2 (op:BinOp) (ek:Nat) (x:V) (b:Bool):yF b (zt8 op ek x):=by
 unfold zt8 yH3
 (repeat' split)<;>trivial
def yd4 (sl:Option Nat) (ar:Option (Nat×Nat×Bool)) (x i:V):Bool:=
 match x,i with
 | .sl _ rows,.int _ k=>(match sl with|some s=>decide (0<=k/\k<rows.length/\(rows.getD k.toNat []).length=s)|none=>true)
 | .ptr _ _,.int _ k=>(match ar with|some (n,_,_)=>decide (0<=k/\k<n)|none=>true)
 | .elp _ _,.int _ k=>(match ar with|some (n,_,_)=>decide (0<=k/\k<n)|none=>true)
 | .lsv _ _ _ _ m,.int _ k=>decide (0<=k/\k<m)
 | .bsv _ _ _ n,.int _ k=>decide (0<=k/\k<n)
 |_,_=>true
theorem yv6 (sl:Option Nat) (ar:Option (Nat×Nat×Bool)) (x i:V):yF (yd4 sl ar x i) (zi5 sl ar x i):=by
 unfold zi5
 split
 all_goals first|trivial|simp only[yd4]
 all_goals split<;>first|trivial|simp only[yF,decide_eq_true_eq,imp_self]
def idxB (x i:V) (ar:Option (Nat×Nat×Bool)):Bool:=
 match x,i with
 | .str b,.int _ k=>decide (0<=k/\k<b.length)
 | .agg cs,.int _ k=>(match ar with|some (n,s,false)=>decide (0<=k/\k<n/\(k.toNat*s)<cs.length)|_=>true)
 |_,_=>true
theorem xt0 (x i:V) (str:Bool) (ar:Option (Nat×Nat×Bool)):yF (idxB x i ar) (zO7 x i str ar):=by
 unfold zO7
 split
 .simp only[idxB]
  split<;>first|trivial|simp only[yF,decide_eq_true_eq,imp_self]
 .split
  .simp only[idxB,yF,decide_eq_true_eq,imp_self]
  .trivial
 .trivial
def yg8 (es:Option Nat) (x:V) (lo hi:Option V):Bool:=
 match x with
 | .lsv _ s n l0 m=>(match bnd lo 0,bnd hi m,es with|some l,some h,some z=>decide (0<=l/\l<=h/\(h<=m∨(l0:Int)+h<=n)/\z=s)|_,_,_=>true)
 | .str s=>(match bnd lo 0,bnd hi s.length with|some l,some h=>decide (0<=l/\l<=h/\h<=s.length)|_,_=>true)
 | .sl _ rows=>(match bnd lo 0,bnd hi rows.length,es with|some l,some h,some z=>decide (0<=l/\l<=h/\h<=rows.length)&&uniB z rows|_,_,_=>true)
 |_=>true
theorem yS6 (ar:Option (Nat×Nat×Bool)) (k:Nat) (es:Option Nat) (x:V) (lo hi:Option V):yF (yg8 es x lo hi) (zn3 ar k es x lo hi):=by
 unfold zn3
 split
 .split
  .rename_i h1 h2
   split
   .simp only[yg8,h1,h2,yF,decide_eq_true_eq,imp_self]
   .trivial
  .trivial
 .split<;>trivial
 .split
  .rename_i h1 h2
   split
   .simp only[yg8,h1,h2,yF,decide_eq_true_eq,imp_self]
   .trivial
  .trivial
 .split
  .rename_i h1 h2
   split
   .simp only[yg8,h1,h2,yF,A8,decide_eq_true_eq]
    exact fun h=>⟨h.1.1,h.1.2.1,h.1.2.2,zo1 h.2⟩
   .trivial
  .trivial
 .trivial
def zZ9 (es:Option Nat) (x lo hi mx:V):Bool:=
 match x,lo,hi,mx,es with
 | .sl _ rows,.int _ l,.int _ h,.int _ m,some z=>decide (0<=l/\l<=h/\h<=rows.length/\m=h)&&uniB z rows
 | .lsv _ s _ _ n,.int _ l,.int _ h,.int _ m,some z=>decide (0<=l/\l<=h/\h<=m/\m<=n/\z=s)
 |_,_,_,_,_=>true
theorem yK1 (es:Option Nat) (x lo hi mx:V):yF (zZ9 es x lo hi mx) (zq8 es x lo hi mx):=by
 unfold zq8
 split
 .simp only[zZ9,yF,A8,decide_eq_true_eq]
  exact fun h=>⟨h.1.1,h.1.2.1,h.1.2.2.1,h.1.2.2.2,zo1 h.2⟩
 .simp only[zZ9,yF,decide_eq_true_eq,imp_self]
 .trivial
def xM6 (x:V):Bool:=
 match x with
 | .sl _ rows=>rows.all xn8
 |_=>true
theorem xe7 (ks kd:Option Kd) (x:V):yF (xM6 x) (zC6 ks kd x):=by
 unfold zC6
 split
 .split<;>trivial
 .split<;>trivial
 .split<;>trivial
 .split
  .exact xn9
  .trivial
 .trivial
def yG1 (el:Option (Nat×Nat)) (l m:V):Bool:=
 match el,l,m with
 |some (_,by'),.int .i64 n,.int .i64 k=>decide (0<=n/\n<=k/\k.toNat*by'<=140737488355328)
 |_,_,_=>false
theorem xg8 (el:Option (Nat×Nat)) (zs:Option (List V)) (σ:St) (l m:V):yF (yG1 el l m) (zC8 el zs σ l m):=by
 unfold zC8
 split
 .simp only[yG1,yF,decide_eq_true_eq,imp_self]
 .trivial
theorem yP8 (el:Option (Nat×Nat)) (zs:Option (List V)) (σ:St) (l m:V):yF (yG1 el l m) (zt7 el zs σ l m):=by
 unfold zt7
 split
 .simp only[yG1,yF,decide_eq_true_eq,imp_self]
 .trivial
def yN8 (sl:Option Nat) (σ:St) (x:V):Bool:=
 match x with
 | .lsv id s n lo m=>(match σ[id]? with|some (.lst rows s')=>decide (sl=some s/\s'=s/\rows.length=n/\lo+m<=n)|_=>true)
 |_=>true
theorem yN9 (sl:Option Nat) (zs:Option (List V)) (σ:St) (x:V):yF (yN8 sl σ x) (zt6 sl zs σ x):=by
 unfold zt6
 split
 .split
  .rename_i h1
   simp only[yN8,h1,yF,decide_eq_true_eq,imp_self]
  .trivial
 .trivial
def srcB (σ:St):V->Bool
 | .lsv id s n lo m=>(match σ[id]? with|some (.lst rows s')=>decide (s'=s/\rows.length=n/\lo+m<=n)&&xW ((rows.drop lo).take m)|_=>false)
 |_=>true
theorem zQ4 {y:V} (h:srcB σ y=true):zo0 σ y:=by
 unfold zo0
 split
 .simp only[srcB]at h
  split at h
  .rename_i h1
   rw[h1]
   simp only[A8,decide_eq_true_eq]at h
   exact⟨h.1.1,h.1.2.1,h.1.2.2,h.2⟩
  .cases h
 .trivial
def zI9 (el:Option (Nat×Nat)) (k2:Nat) (σ:St) (x y:V):Bool:=
 match el,zE5 k2 σ y with
 |some (s,by'),some r2=>
  (match x with
  | .sl .full r1=>srcB σ y&&decide ((r1.length+r2.length)*by'<=140737488355328)&&uniB s r1&&uniB s r2
  | .sl (.app id) r1=>(match σ[id]? with
   |some (.app n s')=>srcB σ y&&decide (r1.length=n/\s'=s/\(r1.length+r2.length)*by'<=140737488355328)&&uniB s r2
   |_=>true)
  | .lsv id s1 n lo m=>(match σ[id]? with
   |some (.lst rows s')=>srcB σ y&&decide (s1=s/\s'=s/\rows.length=n)&&uniB s r2&&(decide (lo+m+r2.length<=n)||decide (lo=0/\m=n/\(n+r2.length)*by'<=140737488355328))
   |_=>true)
  |_=>true)
 |_,_=>true
theorem yB0 (el:Option (Nat×Nat)) (k2:Nat) (σ:St) (x y:V):yF (zI9 el k2 σ x y) (zh2 el k2 σ x y):=by
 unfold zh2
 split
 .rename_i h2
  split
  .simp only[zI9,h2,yF,A8,decide_eq_true_eq]
   exact fun h=>⟨zQ4 h.1.1.1,h.1.1.2,zo1 h.1.2,zo1 h.2⟩
  .split
   .rename_i h3
    simp only[zI9,h2,h3,yF,A8,decide_eq_true_eq]
    exact fun h=>⟨zQ4 h.1.1,h.1.2.1,h.1.2.2.1,h.1.2.2.2,zo1 h.2⟩
   .trivial
  .split
   .rename_i h3
    split
    .simp only[zI9,h2,h3,yF,A8,decide_eq_true_eq]
     exact fun h=>⟨zQ4 h.1.1.1,h.1.1.2.1,h.1.1.2.2.1,h.1.1.2.2.2,zo1 h.1.2⟩
    .rename_i aa
     simp only[zI9,h2,h3,yF,A8,Bn,decide_eq_true_eq]
     exact fun h=>⟨zQ4 h.1.1.1,h.1.1.2.1,h.1.1.2.2.1,h.1.1.2.2.2,zo1 h.1.2,(h.2.resolve_left aa)⟩
   .trivial
  .trivial
 .trivial
def xy7 (σ:St):V->Bool
 | .lsv id s n lo m=>(match σ[id]? with|some (.lst rows s')=>decide (s'=s/\rows.length=n/\lo+m<=n)|_=>false)
 |_=>true
theorem yK3 {y:V} (h:xy7 σ y=true):zw7 σ y:=by
 unfold zw7
 split
 .simp only[xy7]at h
  split at h
  .rename_i h1
   rw[h1]
   exact of_decide_eq_true h
  .cases h
 .trivial
def zF8 (el:Option (Nat×Nat)) (k2:Nat) (σ:St) (x y:V):Bool:=
 match x with
 | .lsv id s1 n lo m=>(match el,zI0 k2 σ y with
  |some (s,by'),some r2=>(match σ[id]? with
   |some (.lst rows s')=>xy7 σ y&&decide (s1=s/\s'=s/\rows.length=n)&&uniB s r2&&(decide (lo+m+r2.length<=n)||decide (lo=0/\m=n/\(n+r2.length)*by'<=140737488355328))
   |_=>true)
  |_,_=>true)
 |x=>match el,zE5 k2 σ y with
 |some (s,by'),some r2=>
  (match x with
  | .sl .full r1=>srcB σ y&&decide ((r1.length+r2.length)*by'<=140737488355328)&&uniB s r1&&uniB s r2&&(!r2.isEmpty||r1.isEmpty)
  |_=>true)
 |_,_=>true
theorem ys7 (el:Option (Nat×Nat)) (k2:Nat) (σ:St) (x y:V):yF (zF8 el k2 σ x y) (ze3 el k2 σ x y):=by
 unfold ze3
 split
 .split
  .rename_i h2
   split
   .rename_i h3
    split
    .simp only[zF8,h2,h3,yF,A8,decide_eq_true_eq]
     exact fun h=>⟨yK3 h.1.1.1,h.1.1.2.1,h.1.1.2.2.1,h.1.1.2.2.2,zo1 h.1.2⟩
    .rename_i aa
     simp only[zF8,h2,h3,yF,A8,Bn,decide_eq_true_eq]
     exact fun h=>⟨yK3 h.1.1.1,h.1.1.2.1,h.1.1.2.2.1,h.1.1.2.2.2,zo1 h.1.2,(h.2.resolve_left aa)⟩
   .trivial
  .trivial
 .split
  .rename_i h2
   split
   .simp only[zF8,h2,yF,A8,decide_eq_true_eq]
    refine fun h=>⟨zQ4 h.1.1.1.1,h.1.1.1.2,zo1 h.1.1.2,zo1 h.1.2,fun e=> ?_⟩
    have:=h.2
    rw[e]at this
    simpa using this
   .trivial
  .trivial
def zq5 (L:Bool) (es:Option Nat) (len:Nat) (parts:List (Nat×V)):Bool:=
 match es with
 |some s=>(parts.all fun p=>(L||zL7 p.2)&&(yZ p.2).length==s)&&decide (len*s<=16777216/\0<s)
 |none=>true
theorem zY3 (es:Option Nat) (len:Nat) (parts:List (Nat×V)):yF (zq5 false es len parts) (zb4 es len parts):=by
 unfold zb4
 split
 .split
  .simp only[zq5,yF,A8,decide_eq_true_eq,Aj,Ce,beq_iff_eq]
   exact fun h=>⟨fun p hp=>h.1 p hp,h.2⟩
  .trivial
 .trivial
theorem zS2 (es:Option Nat) (len:Nat) (σ:St) (parts:List (Nat×V)):yF (zq5 true es len parts) (wX es len σ parts):=by
 unfold wX
 split
 .split
  .simp only[zq5,yF,A8,decide_eq_true_eq,Aj,Dr,beq_iff_eq]
   exact fun h=>⟨fun p hp=>(h.1 p hp).2,h.2⟩
  .trivial
 .trivial
def yf0 (P:Program) (L:Bool) (e:Env) (σ:St):Op->Bool
 | .buildSlice t n ps=>zq5 L ((elT P t).map (·.1)) n (ps.toList.map fun p=>(p.1,zD e p.2))
 | .binOp op _ x y _=>binB op (zD e x) (zD e y)
 | .convert _ _ x=>xM6 (zD e x)
 | .slice t x lo hi none=>if L then false else yg8 ((elT P t).map (·.1)) (zD e x) (lo.map (zD e)) (hi.map (zD e))
 | .slice t x (some lo) (some hi) (some mx)=>zZ9 ((elT P t).map (·.1)) (zD e x) (zD e lo) (zD e hi) (zD e mx)
 | .indexAddr t x i=>yd4 (slcT P t) (arrT P t) (zD e x) (zD e i)
 | .index t x i=>idxB (zD e x) (zD e i) (arrT P t)
 | .makeSlice t l m=>yG1 (elT P t) (zD e l) (zD e m)
 | .call ⟨.builtin .append,⟨[x,y]⟩,⟨[t,t']⟩⟩=>if L then zF8 (elT P t) (lenT P t') σ (zD e x) (zD e y)else zI9 (elT P t) (lenT P t') σ (zD e x) (zD e y)
 | .call ⟨.builtin .clear,⟨[x]⟩,⟨[t]⟩⟩=>yN8 ((elT P t).map (·.1)) σ (zD e x)
 |_=>true
def xY0:R->Bool
 | .need _ _| .needst _ _ _=>false
 |_=>true
theorem yN {b:Bool} {r:R} (h:xY0 r=true):yF b r:=by
 cases r<;>first|trivial|cases h
theorem zS8 (op:Op):yF (yf0 P false e σ op) (evOp P e σ op):=by
 unfold evOp
 split
 .trivial
 .trivial
 .refine yN ?_;unfold zG4;(repeat' split)<;>rfl
 .refine yN ?_;unfold zl3;(repeat' split)<;>rfl
 .refine yN ?_;unfold zO6;(repeat' split)<;>rfl
 .refine yN ?_;unfold zx4;(repeat' split)<;>rfl
 .exact zY3 ..
 .refine yN ?_;unfold zh3;(repeat' split)<;>first|rfl|(unfold zl4;(repeat' split)<;>rfl)
 .refine yN ?_;unfold zt9;(repeat' split)<;>rfl
 .refine yN ?_;unfold zW5;(repeat' split)<;>rfl
 .split
  .exact yQ2 ..
  .split
   .refine yN ?_;unfold zq7;(repeat' split)<;>rfl
   .exact xn3 ..
 .refine yN ?_;unfold evUn;(repeat' split)<;>rfl
 .exact xe7 ..
 .exact yS6 ..
 .exact yK1 ..
 .refine yN ?_;unfold ze7;(repeat' split)<;>rfl
 .refine yN ?_;unfold zx6;(repeat' split)<;>rfl
 .exact yv6 ..
 .exact xt0 ..
 .refine yN ?_;unfold zm4;(repeat' split)<;>rfl
 .refine yN ?_;unfold zG3;(repeat' split)<;>rfl
 .exact xg8 ..
 .refine yN ?_;unfold zW4;(repeat' split)<;>rfl
 .exact yB0 ..
 .exact yN9 ..
 .refine yN ?_;unfold zA3;(repeat' split)<;>rfl
 .refine yN ?_;unfold zA3;(repeat' split)<;>rfl
 .refine yN ?_;unfold zq6;(repeat' split)<;>rfl
 .refine yN ?_;unfold zm5;(repeat' split)<;>rfl
 .refine yN ?_;unfold xL;(repeat' split)<;>rfl
 .refine yN ?_;unfold xG;(repeat' split)<;>rfl
 .refine yN ?_;unfold xG;(repeat' split)<;>rfl
 .refine yN ?_;unfold xP;(repeat' split)<;>rfl
 .refine yN ?_;unfold xE;(repeat' split)<;>rfl
 .refine yN ?_;unfold zx7;(repeat' split)<;>rfl
 .refine yN ?_;unfold zi4;(repeat' split)<;>rfl
 .refine yN ?_;unfold zW3;(repeat' split)<;>rfl
 .refine yN ?_;unfold zh4;(repeat' split)<;>rfl
 .trivial
theorem yO4 (op:Op):yF (yf0 P false e σ op&&yf0 P true e σ op) (za1 P e σ op):=by
 have weak: ∀{b c:Bool} {r:R},yF b r->yF (c&&b) r:=by
  intro b c r h
  cases r with
  |need p v=>exact fun q=>h (by simp at q;exact q.2)
  |needst p v s=>exact fun q=>h (by simp at q;exact q.2)
  |_=>trivial
 have aa: ∀{b c:Bool} {r:R},yF b r->yF (b&&c) r:=by
  intro b c r h
  cases r with
  |need p v=>exact fun q=>h (by simp at q;exact q.1)
  |needst p v s=>exact fun q=>h (by simp at q;exact q.1)
  |_=>trivial
 unfold za1
 split
 .exact weak (zS2 ..)
 .exact weak (yP8 ..)
 .refine yN ?_;unfold zx5;(repeat' split)<;>rfl
 .refine weak (b:=false) ?_;unfold zq9;(repeat' split)<;>first|trivial|exact fun q=>by cases q
 .exact weak (ys7 ..)
 .refine yN ?_;unfold zh4;(repeat' split)<;>rfl
 .exact aa (zS8 op)
def xopR (b:Bool) (σ:St):R->Option (V×St)
 | .ok v=>some (v,σ)
 | .need _ v=>if b then some (v,σ)else none
 | .st v σ'=>some (v,σ')
 | .needst _ v σ'=>if b then some (v,σ')else none
 |_=>none
def xop (P:Program) (d:Option Tmp) (e:Env) (σ:St) (op:Op):Option (V×St):=
 if zd5 e d then xopR (yf0 P false e σ op&&yf0 P true e σ op) σ (za1 P e σ op)else xopR (yf0 P false e σ op) σ (evOp P e σ op)
theorem yi7 {b:Bool} {r:R} {v:V} (hn:yF b r) (h:xopR b σ r=some (v,σ')) (hk:vput nt d v K e σ'):vfin nt d r K e σ:=by
 cases r with
 |fail=>cases h
 |ok v'=>cases h;exact hk
 |need p v'=>
  simp only[xopR]at h
  split at h
  .rename_i hb
   cases h;exact⟨hn hb,hk⟩
  .cases h
 |st v' s=>cases h;exact hk
 |needst p v' s=>
  simp only[xopR]at h
  split at h
  .rename_i hb
   cases h;exact⟨hn hb,hk⟩
  .cases h
 |all f=>cases h
 |any l=>cases h
theorem xL7 {v:V} (h:xop P d e σ op=some (v,σ')) (hk:vput nt d v K e σ'):vfin nt d (xH P d e σ op) K e σ:=by
 unfold xop at h
 unfold xH
 split at h
 .rename_i hh
  rw[if_pos hh]
  exact yi7 (yO4 op) h hk
 .rename_i hh
  rw[if_neg hh]
  exact yi7 (zS8 op) h hk
def envX (ms:List Nat) (l:List V):Env:=fun t=>if t<100000 then l.getD t .u else if ms.contains (t - 100000)then .tup []else .u
theorem xq2 {t:Nat} {v:V} (h:t<l.length) (hl:l.length<=100000):upd (envX ms l) t v=envX ms (l.set t v):=by
 funext k
 simp only[upd,envX]
 by_cases hk:k=t
 .subst hk
  rw[if_pos rfl,if_pos om,A9,Ar h];rfl
 .rw[if_neg hk]
  split
  .rw[A9,A9,Ah (fun q=>hk q.symm)]
  .rfl
def xput (d:Option Tmp) (v:V) (l:List V):Option (List V):=
 match d with
 |some t=>if t<l.length then some (l.set t v)else none
 |none=>some l
theorem ya9 {v:V} {l':List V} (h:xput d v l=some l') (hl:l.length<=100000):l'.length=l.length/\ ∀(K:KT) (σ:St),K (envX ms l') σ->vput l.length d v K (envX ms l) σ:=by
 unfold xput at h
 unfold vput
 split at h
 .split at h
  .rename_i ht
   cases h
   refine⟨sm,fun K σ hk=>⟨ht, ?_⟩⟩
   rw[xq2 ht hl];exact hk
  .cases h
 .cases h
  exact⟨rfl,fun K σ hk=>hk⟩
def xgd (g:Option (Nat×Bool)) (ops:List Oper) (e:Env):Option Bool:=
 match g with
 |none=>some true
 |some (j,want)=>(match gdst ops j with|some t=>(match e t with| .bool b=>some (b==want)| .tup []=>some false|_=>none)|none=>none)
theorem yA2 {g:Option (Nat×Bool)} {ops:List Oper} {A B:Prop} {r:Bool} (h:xgd g ops e=some r) (ha:r=true->A) (hb:r=false->B):vgd g ops e A B:=by
 unfold xgd at h
 unfold vgd
 split at h
 .cases h;exact ha rfl
 .split at h
  .rename_i t ht
   simp only[ht]
   unfold vgrd
   split at h
   .rename_i b he
    cases h
    rw[he]
    exact⟨fun q=>ha (by simp[q]),fun q=>hb (by simpa using q)⟩
   .rename_i he
    cases h
    rw[he]
    exact hb rfl
   .cases h
  .cases h
abbrev zj1:=V->List V->St->Option (V×St)
def zs1 (P:Program) (call:zj1):Prop:= ∀fv az σ v σ',call fv az σ=some (v,σ')-> ∀c,VC P c fv az σ (fun r s=>r=v/\s=σ')
def xopc (P:Program) (call:zj1) (d:Option Tmp) (e:Env) (σ:St) (op:Op):Option (V×St):=
 match op with
 | .call ⟨.value f,args,_⟩=>call (zD e f) (args.toList.map (zD e)) σ
 |op=>xop P d e σ op
theorem xL8 {call:zj1} (hc:zs1 P call) {v:V} (h:xopc P call d e σ op=some (v,σ')) (hk:vput nt d v K e σ'):vop P c nt d op K e σ:=by
 unfold xopc at h
 unfold vop
 split at h
 .refine(hc _ _ _ _ _ h c).mono ?_
  rintro r s ⟨rfl,rfl⟩
  exact hk
 .rename_i aa
  split
  .exact absurd rfl (aa _ _ _)
  .exact xL7 h hk
def yM9 (P:Program) (call:zj1) (ms:List Nat) (ops:List Oper):List Oper->List V->St->Option (List V×St)
 | [],l,σ=>some (l,σ)
 |o::rest,l,σ=>
  match xgd o.guard ops (envX ms l)with
  |none=>none
  |some true=>(match xopc P call o.dst (envX ms l) σ o.op with
   |some (v,σ')=>(match xput o.dst v l with|some l'=>yM9 P call ms ops rest l' σ'|none=>none)
   |none=>none)
  |some false=>(match xput o.dst (.tup []) l with|some l'=>yM9 P call ms ops rest l' σ|none=>none)
theorem zR9 {P:Program} {call:zj1} (hc:zs1 P call) {ms:List Nat} {ops:List Oper} {c:Ctx}: ∀(rest:List Oper) (l:List V) (σ:St) (l':List V) (σ':St),yM9 P call ms ops rest l σ=some (l',σ')->l.length<=100000->
  l'.length=l.length/\ ∀K:KT,K (envX ms l') σ'->vrun P c l.length ops rest K (envX ms l) σ
 | [],l,σ,l',σ',h,hl=>by cases h;exact⟨rfl,fun K hk=>hk⟩
 |o::rest,l,σ,l',σ',h,hl=>by
  unfold yM9 at h
  split at h
  .cases h
  .rename_i hg
   split at h
   .rename_i v s1 ho
    split at h
    .rename_i l1 hp
     obtain⟨e1,e2⟩:=ya9 (ms:=ms) hp hl
     obtain⟨e3,e4⟩:=zR9 hc (c:=c) rest l1 s1 l' σ' h om
     refine⟨om,fun K hk=> ?_⟩
     refine yA2 hg (fun _=> ?_) (fun q=>by cases q)
     refine xL8 hc ho (e2 _ _ ?_)
     have:=e4 K hk
     rwa [e1]at this
    .cases h
   .cases h
  .rename_i hg
   split at h
   .rename_i l1 hp
    obtain⟨e1,e2⟩:=ya9 (ms:=ms) hp hl
    obtain⟨e3,e4⟩:=zR9 hc (c:=c) rest l1 σ l' σ' h om
    refine⟨om,fun K hk=> ?_⟩
    refine yA2 hg (fun q=>by cases q) (fun _=> ?_)
    refine e2 _ _ ?_
    have:=e4 K hk
    rwa [e1]at this
   .cases h
def notL:Op->Bool
 | .buildSlice .. | .makeSlice .. | .convert .. | .call _| .next .. | .slice .. =>false
 |_=>true
theorem xH4 (h:notL op=true): ∀e σ,za1 P e σ op=evOp P e σ op:=by
 intro e σ
 cases op<;>first|rfl|cases h
def yY6 (n0:Kp) (e:Env):Op->Bool
 | .load _ x=>imm n0 (zD e x)
 |_=>false
def xX5:Op->Bool
 | .alloc _| .box .. =>true
 |_=>false
def xO8 (P:Program) (n0:Kp) (k:Nat) (d:Option Tmp) (e:Env) (σ:St) (op:Op):Bool:=
 (!zd5 e d||notL op)&&(k !=0||zd7 op==0)&&(k !=1||yY6 n0 e op)&&(!isSt (evOp P e σ op)||decide (3<=k))&&(k==4||(k==3&&xX5 op)|| !isSt (evOp P e σ op))
def xtop (P:Program) (call:zj1) (n0:Kp) (k:Nat) (d:Option Tmp) (e:Env) (σ:St) (op:Op):Option (V×St):=
 match op with
 | .call ⟨.value f,args,_⟩=>if k=0 then(match call (zD e f) (args.toList.map (zD e)) []with|some (v,_)=>if noS v&&noS (zD e f)&&(args.toList.map (zD e)).all noS then some (v,σ)else none|none=>none)
   else if k=4 then(match call (zD e f) (args.toList.map (zD e)) σ with|some (v,σ')=>if σ.length<=σ'.length then some (v,σ')else none|none=>none)
   else none
 |op=>if xO8 P n0 k d e σ op then xopR (yf0 P false e σ op) σ (evOp P e σ op)else none
def zu5 (P:Program) (call:zj1):Prop:= ∀fv az v σ',call fv az []=some (v,σ')->noS v=true->noS fv=true->az.all noS=true-> ∀c s,VC P c fv az s (fun r s'=>r=v/\s'=s)
theorem xL9 {call:zj1} (hc:zs1 P call) (hp:zu5 P call) {n0:Kp} {k:Nat} {v:V} (h:xtop P call n0 k d e σ op=some (v,σ')) (hk:vput nt d v K e σ'):vtop P c nt n0 k d op K e σ:=by
 unfold xtop at h
 unfold vtop
 split at h
 .split at h
  .rename_i ab
   split at h
   .rename_i v' s' aa
    split at h
    .rename_i hn
     cases h
     simp only[A8]at hn
     subst ab
     refine⟨v,σ, ?_,fun _=>rfl,fun _=>KeepN.refl,A6 _,hk⟩
     rw[if_pos rfl]
     exact fun s=>hp _ _ _ _ aa hn.1.1 hn.1.2 hn.2 c s
    .cases h
   .cases h
  .split at h
   .rename_i ab ad
    split at h
    .rename_i v' s' aa
     split at h
     .rename_i hle
      cases h
      subst ad
      refine⟨v,σ', ?_,fun q=>om,fun q=>om,hle,hk⟩
      rw[if_neg dc,if_neg dc]
      exact hc _ _ _ _ _ aa c
     .cases h
    .cases h
   .cases h
 .rename_i ae
  split
  .exact absurd rfl (ae _ _ _)
  .split at h
   .rename_i ht
    simp only[xO8,A8,Bn,Cr,bne_iff_ne,beq_iff_eq,decide_eq_true_eq]at ht
    obtain⟨⟨⟨⟨t1,t2⟩,t3⟩,t4⟩,t5⟩:=ht
    have hh:hok P d e op:=by
     rcases t1 with t1|t1
     .exact .inl t1
     .exact .inr (xH4 t1)
    rw[zo9 hh]
    refine⟨fun _=>hh, ?_,fun q=>t2.resolve_left (fun w=>w q),fun q=> ?_,fun q=>t4.resolve_left (by rw[q];simp), ?_,yi7 (zS8 op) h hk⟩
    .cases hr:evOp P e σ op with
     |all f=>rw[hr]at h;cases h
     |any l=>rw[hr]at h;cases h
     |_=>rfl
    .have:=t3.resolve_left (fun w=>w q)
     unfold yY6 at this
     split at this
     .exact .inl ⟨_,_,rfl,this⟩
     .cases this
    .rcases t5 with (t5|t5)|t5
     .subst t5;exact zU6
     .obtain⟨t5,t6⟩:=t5
      subst t5
      cases op with
      |alloc t=>simp only[evOp];unfold zl3;split<;>first|trivial|exact⟨sm,fun _=> .inl ⟨_,rfl⟩⟩
      |box t x=>simp only[evOp];unfold zO6;split<;>first|trivial|exact⟨sm,fun _=> .inl ⟨_,rfl⟩⟩
      |_=>cases t6
     .exact zr4 t5
   .cases h
def xtr (P:Program) (call:zj1) (n0:Kp) (ms:List Nat) (ops:List Oper) (q:List (Nat×Nat)):Nat->List Oper->List V->St->Option (List V×St)
 |_,[],l,σ=>some (l,σ)
 |i,o::rest,l,σ=>
  match xgd o.guard ops (envX ms l)with
  |none=>none
  |some true=>(match xtop P call n0 (zT q i o) o.dst (envX ms l) σ o.op with
   |some (v,σ')=>(match xput o.dst v l with|some l'=>xtr P call n0 ms ops q (i+1) rest l' σ'|none=>none)
   |none=>none)
  |some false=>(match xput o.dst (.tup []) l with|some l'=>xtr P call n0 ms ops q (i+1) rest l' σ|none=>none)
theorem yU4 {P:Program} {call:zj1} (hc:zs1 P call) (aa:zu5 P call) {n0:Kp} {ms:List Nat} {ops:List Oper} {q:List (Nat×Nat)} {c:Ctx}: ∀(rest:List Oper) (i:Nat) (l:List V) (σ:St) (l':List V) (σ':St),xtr P call n0 ms ops q i rest l σ=some (l',σ')->l.length<=100000->
  l'.length=l.length/\ ∀K:KT,K (envX ms l') σ'->vtr P c l.length n0 ops q i rest K (envX ms l) σ
 | [],i,l,σ,l',σ',h,hl=>by cases h;exact⟨rfl,fun K hk=>hk⟩
 |o::rest,i,l,σ,l',σ',h,hl=>by
  unfold xtr at h
  split at h
  .cases h
  .rename_i hg
   split at h
   .rename_i v s1 ho
    split at h
    .rename_i l1 hp
     obtain⟨e1,e2⟩:=ya9 (ms:=ms) hp hl
     obtain⟨e3,e4⟩:=yU4 hc aa (c:=c) rest (i+1) l1 s1 l' σ' h om
     refine⟨om,fun K hk=> ?_⟩
     refine yA2 hg (fun _=> ?_) (fun q=>by cases q)
     refine xL9 hc aa ho (e2 _ _ ?_)
     have:=e4 K hk
     rwa [e1]at this
    .cases h
   .cases h
  .rename_i hg
   split at h
   .rename_i l1 hp
    obtain⟨e1,e2⟩:=ya9 (ms:=ms) hp hl
    obtain⟨e3,e4⟩:=yU4 hc aa (c:=c) rest (i+1) l1 σ l' σ' h om
    refine⟨om,fun K hk=> ?_⟩
    refine yA2 hg (fun q=>by cases q) (fun _=> ?_)
    refine e2 _ _ ?_
    have:=e4 K hk
    rwa [e1]at this
   .cases h
def yt1:Nat->List Oper->List (Nat×Nat)
 |_,[]=> []
 |i,o::os=>(match o.op with| .call ⟨.value _,_,_⟩=> [(i,0)]|_=> [])++yt1 (i+1) os
def yh1:Nat->List Oper->List (Nat×Nat)
 |_,[]=> []
 |i,o::os=>(match o.op with| .store .. => [(i,4)]| .call ⟨.builtin .append,_,_⟩=> [(i,4)]|_=> [])++yh1 (i+1) os
def xO4:Nat->List Oper->List (Nat×Nat)
 |_,[]=> []
 |i,o::os=>(match o.op with| .store .. => [(i,4)]| .call ⟨.builtin .append,_,_⟩=> [(i,4)]| .call ⟨.value _,_,_⟩=> [(i,4)]|_=> [])++xO4 (i+1) os
def xB2:Nat->List Oper->List (Nat×Nat)
 |_,[]=> []
 |i,o::os=>(match o.op with| .store .. => [(i,4)]| .load .. => [(i,4)]| .alloc _=> [(i,4)]| .call ⟨.builtin .append,_,_⟩=> [(i,4)]| .call ⟨.value _,_,_⟩=> [(i,4)]|_=> [])++xB2 (i+1) os
def xC0 (ops:List Oper):List (List (Nat×Nat)):= [[],yt1 0 ops,yh1 0 ops,yt1 0 ops++yh1 0 ops,xO4 0 ops,xB2 0 ops]
def yA1 (P:Program) (call:zj1) (ms:List Nat) (ops:List Oper) (l:List V) (σ:St):List (List (Nat×Nat))->Option (List V×St)
 | []=>none
 |q::qs=>if zz5 ops q then(match xtr P call (Kp.pre σ.length) ms ops q 0 ops l σ with|some r=>some r|none=>yA1 P call ms ops l σ qs)else yA1 P call ms ops l σ qs
def xC1 (P:Program) (call:zj1) (ms:List Nat) (ops:List Oper) (l:List V) (σ:St):Option (List V×St):=
 if zc7 ops then yA1 P call ms ops l σ (xC0 ops)else none
theorem yM7 {call:zj1} (hc:zs1 P call) (aa:zu5 P call) (hm:P.follows .mixedOrders=true) {ops:List Oper} {id:Nat} {l':List V} (h:xC1 P call ms ops l σ=some (l',σ')) (hl:l.length<=100000):
  l'.length=l.length/\ ∀Q:QT,Q .normal (envX ms l') σ'->VW P c l.length (.region id ops.toArray true) Q (envX ms l) σ:=by
 unfold xC1 at h
 split at h
 .rename_i he
  have go: ∀q,zz5 ops q=true->xtr P call (Kp.pre σ.length) ms ops q 0 ops l σ=some (l',σ')->l'.length=l.length/\ ∀Q:QT,Q .normal (envX ms l') σ'->VW P c l.length (.region id ops.toArray true) Q (envX ms l) σ:=by
   intro q hd hx
   obtain⟨e1,e2⟩:=yU4 hc aa (c:=c) ops 0 l σ l' σ' hx hl
   exact⟨e1,fun Q hq=>yV q σ.length rfl hm (by rw[hd,he];rfl) (e2 (Q .normal) hq)⟩
  generalize xC0 ops=qs at h
  induction qs with
  |nil=>cases h
  |cons q qs ih=>
   unfold yA1 at h
   split at h
   .rename_i hd
    split at h
    .rename_i r hx
     cases h
     exact go _ hd hx
    .exact ih h
   .exact ih h
 .cases h
abbrev RunT:=List Nat->Code->List V->St->Option (Exit×List V×St)
def xN3:Exit->Bool
 | .normal| .ret=>true
 |_=>false
def zL9 (P:Program) (H:FuncId->List Nat) (run:RunT):zj1:=fun fv az σ=>
 match fv with
 | .fn f caps=>(match P.funcs[f]? with
  |some fn=>(match fn.body with
   |some code=>if decide ((az++caps).length<=fn.ntmps)&&decide (fn.ntmps<=100000)then
     (match run (H f) code ((az++caps)++List.replicate (fn.ntmps - (az++caps).length) .u) σ with
     |some (x,l',σ')=>if xN3 x&&decide (σ.length<=σ'.length)then(match retV P fn.results.toList (envX (H f) l') σ' with|some v=>some (v,σ')|none=>none)else none
     |none=>none)else none
   |none=>none)
  |none=>none)
 |_=>none
def orT (T call:zj1):zj1:=fun fv az σ=>match T fv az σ with|some r=>some r|none=>call fv az σ
theorem xT3 {T call:zj1} (hT:zs1 P T) (hc:zs1 P call):zs1 P (orT T call):=by
 intro fv az σ v σ' h c
 unfold orT at h
 split at h
 .rename_i r hr
  cases h
  exact hT _ _ _ _ _ hr c
 .exact hc _ _ _ _ _ h c
theorem xw5 {T call:zj1} (hT: ∀fv az,T fv az []=none) (hc:zu5 P call):zu5 P (orT T call):=by
 intro fv az v σ' h
 unfold orT at h
 rw[hT]at h
 exact hc fv az v σ' h
def noT:zj1:=fun _ _ _=>none
theorem xv0:zs1 P noT:=fun _ _ _ _ _ h=>by cases h
def zo7 (P:Program) (T:zj1) (H:FuncId->List Nat) (run:RunT):RunT:=fun ms code l σ=>
 match code with
 | .skip=>some (.normal,l,σ)
 | .label _=>some (.normal,l,σ)
 | .exit id=>some (.exit id,l,σ)
 | .ret=>some (.ret,l,σ)
 | .seq x y=>(match run ms x l σ with
  |some (.normal,l',σ')=>run ms y l' σ'
  |r=>r)
 | .cond x t f=>(match zD (envX ms l) x with| .bool true=>run ms t l σ| .bool false=>run ms f l σ|_=>none)
 | .block id b=>(match run ms b l σ with
  |some (.exit id',l',σ')=>if id'=id then some (.normal,l',σ')else some (.exit id',l',σ')
  |r=>r)
 | .region _ ops draw=>if draw then(match xC1 P (orT T (zL9 P H run)) ms ops.toList l σ with|some (l',σ')=>some (.normal,l',σ')|none=>none)
   else(match yM9 P (orT T (zL9 P H run)) ms ops.toList ops.toList l σ with|some (l',σ')=>some (.normal,l',σ')|none=>none)
 | .loop b=>(match run ms b l σ with
  |some (.normal,l',σ')=>run ms (.loop b) l' σ'
  |r=>r)
 |_=>none
def zI7 (P:Program) (T:zj1) (H:FuncId->List Nat):Nat->RunT
 |0=>fun _ _ _ _=>none
 |n+1=>zo7 P T H (zI7 P T H n)
def xr4:Exit->Bool
 | .normal| .ret| .exit _=>true
 |_=>false
def yA7 (P:Program) (run:RunT):Prop:= ∀ms code l σ x l' σ',run ms code l σ=some (x,l',σ')->l.length<=100000->
 l'.length=l.length/\xr4 x=true/\ ∀(c:Ctx) (Q:QT),Q x (envX ms l') σ'->VW P c l.length code Q (envX ms l) σ
theorem xq1 (hl:l.length<=100000) (n:Nat):envX [] (l++List.replicate n .u)=envA 0 l:=by
 funext t
 have e1:=yc0 l 0 t
 rw[Af]at e1
 rw[e1]
 unfold envX
 by_cases ht:t<l.length
 .rw[if_pos om,A9,A9,Ae ht]
 .have e2:l.getD t .u= .u:=by rw[A9,Bg om];rfl
  rw[e2]
  split
  .rw[A9,An om,List.getElem?_replicate]
   split<;>rfl
  .simp
theorem xf2 {t:Nat}:upd (envX ms l) (100000+t) (.tup [])=envX (t::ms) l:=by
 funext k
 unfold upd envX
 by_cases hk:k=100000+t
 .rw[if_pos hk,if_neg om,if_pos (by rw[hk];simp)]
 .rw[if_neg hk]
  by_cases h0:k<100000
  .rw[if_pos h0,if_pos h0]
  .have h2:(k - 100000==t)=false:=by simp;omega
   rw[if_neg h0,if_neg h0,E4,h2,Ce]
theorem VW.marks {code:Code} {Q:QT} (hn:nt<=100000) (ms:List Nat) (h:VW P c nt code Q (envX ms l) σ):VW P c nt code Q (envX [] l) σ:=by
 induction ms with
 |nil=>exact h
 |cons t ms ih=>
  refine ih ?_
  have h2:=zx0 (P:=P) (c:=c) (nt:=nt) (Q:=Q) (e:=envX ms l) (σ:=σ) t (y:=code) hn
  rw[xf2]at h2
  exact h2 h
theorem zE3 {k i:Nat}:ren (List.range k) k i=i:=by
 by_cases h:i<k
 .exact ze5 h
 .rw[zs2 (by simp;omega)];simp;omega
theorem xj4 {n0:Nat} (h:n0<=σ.length):Picks n0 (List.range σ.length) σ σ:=by
 refine⟨sm,C5,fun i j o hi ho=> ?_,fun i hi=>by rw[D0 om]⟩
 obtain⟨h1,h2⟩:=A5.1 hi
 simp at h1 h2
 subst h2
 rw[zr2 (fun i=>zE3)]
 exact ho
theorem zt4 {run:RunT} (hr:yA7 P run) {f:FuncId} {caps az:List V} {v:V} (h:zL9 P H run (.fn f caps) az σ=some (v,σ')):
  VCalls P f (az++caps) σ (fun r s=>r=v/\s=σ')/\(P.funcs[f]?.bind (·.body)).isSome=true/\(σ= []->noS v=true->VCalls P f (az++caps) σ (fun r s=>r=v/\s= [])):=by
 unfold zL9 at h
 simp only at h
 split at h
 .rename_i fn hf
  split at h
  .rename_i code hb
   split at h
   .rename_i hlen
    simp only[A8,decide_eq_true_eq]at hlen
    split at h
    .rename_i x l' s1 hx
     split at h
     .rename_i aa
      simp only[A8,decide_eq_true_eq]at aa
      split at h
      .rename_i v' hv
       cases h
       have ab:((az++caps)++List.replicate (fn.ntmps - (az++caps).length) V.u).length=fn.ntmps:=by
        rw[B0,List.length_replicate];omega
       obtain⟨e1,e2,e3⟩:=hr _ _ _ _ _ _ _ hx om
       have key: ∀R:V->St->Prop,VRet σ.length R v σ'->VCalls P f (az++caps) σ R:=by
        intro R hR
        refine VCalls.introW (rs:=fn.results.toList) σ.length hf rfl sm hb rfl hlen.1 fun c _ _=> ?_
        rw[<-xq1 om (fn.ntmps - (az++caps).length)]
        refine VW.marks hlen.2 (H f) ?_
        have:=e3 c (retQ P fn.results.toList σ.length R)
        rw[ab]at this
        refine this ?_
        have hq: ∃v,retV P fn.results.toList (envX (H f) l') σ'=some v/\VRet σ.length R v σ':=⟨v,hv,hR⟩
        cases x with
        |normal=>exact hq
        |ret=>exact hq
        |_=>simp[xN3]at aa
       refine⟨key _ ⟨v,σ',List.range σ'.length,σ',v,.refl _ _,xj4 aa.2,.inl (zy7 (fun i=>zE3) v).symm,rfl,rfl⟩, ?_,fun h0 hn=> ?_⟩
       .rw[hf]
        show(fn.body).isSome=true
        rw[hb];rfl
       .subst h0
        refine key _ ⟨v,σ',[],[],v,.refl _ _,⟨rfl,D7,fun i j o h=>by simp at h,fun i h=>absurd h (Bj i)⟩,zC hn,rfl,rfl⟩
      .cases h
     .cases h
    .cases h
   .cases h
  .cases h
 .cases h
theorem xh5 {s:St} (h:σ.length<=s.length):xA (List.range σ.length) σ s=s:=by
 have hid:yJ (ren (List.range σ.length) σ.length)=fun o=>o:=funext fun o=>zr2 (fun i=>zE3) o
 apply C7
 intro i
 by_cases hi:i<s.length
 .have:=zu4 (sel:=List.range σ.length) (σc:=σ) (σ':=s) C5 (fun q hq=>C0.1 hq) (by simpa using h) (A4 hi)
  rw[zE3,hid]at this
  rw[this,A4 hi]
 .have hl:(xA (List.range σ.length) σ s).length=s.length:=by rw[zu0];simp;omega
  rw[Bg om,Bg om]
theorem yB7 {f:FuncId} (hN:(P.funcs.all fun fn=> !(fn.name== "runtime.NumGoroutine"))=true) (h:(P.funcs[f]?.bind (·.body)).isSome=true):wC P f=true:=by
 unfold wC
 cases hf:P.funcs[f]? with
 |none=>rw[hf]at h;cases h
 |some fn=>
  rw[hf]at h
  simp only[Ax]at h
  have h1:(!(fn.name== "runtime.NumGoroutine"))=true:=by
   obtain⟨hl,he⟩:=Au.1 hf
   have:=Array.all_eq_true.1 hN f hl
   rw[he]at this
   exact this
  simp only[h1,h,Bool.and_self]
theorem xe3 {run:RunT} (hr:yA7 P run) (hN:(P.funcs.all fun fn=> !(fn.name== "runtime.NumGoroutine"))=true):zs1 P (zL9 P H run):=by
 intro fv az σ v σ' h c
 cases fv with
 |fn f caps=>
  obtain⟨h1,h2,_⟩:=zt4 hr h
  refine VC.of h1 (yB7 hN h2) (List.range σ.length) C5 sm (fun i j o hi ho=> ?_) ?_ ?_
  .obtain⟨h3,h4⟩:=A5.1 hi
   simp at h3 h4
   subst h4
   rw[zr2 (fun i=>zE3)];exact ho
  .have: ∀l:List V,All2 (argS (ren (List.range σ.length) σ.length)) l l:=by
    intro l
    induction l with
    |nil=>trivial
    |cons a l ih=>exact⟨.inl (zy7 (fun i=>zE3) a).symm,ih⟩
   exact this _
  .rintro r s ⟨rfl,rfl⟩ hl
   rw[zy7 (fun i=>zE3),xh5 (by simpa using hl)]
   exact⟨rfl,rfl⟩
 |_=>cases h
theorem yB8 {run:RunT} (hr:yA7 P run) (hN:(P.funcs.all fun fn=> !(fn.name== "runtime.NumGoroutine"))=true):zu5 P (zL9 P H run):=by
 intro fv az v σ' h hn hf ha c s
 cases fv with
 |fn f caps=>
  obtain⟨_,h2,h3⟩:=zt4 hr h
  have hcn:caps.all noS=true:=by
   simp only[noS,noA,noC]at hf
   rw[Aj]at hf⊢
   intro x hx
   have:=hf x hx
   cases x<;>first|exact this|cases this
  refine zM (P:=P) (c:=c) (KV:=fun r s'=>r=v/\s'=s) (h3 rfl hn) (yB7 hN h2) (zZ (by rw[Ei,ha,hcn];rfl)) hn ⟨rfl,rfl⟩
 |_=>cases h
section
variable {P:Program} {T:zj1} {H:FuncId->List Nat}
theorem yM8 {ms:List Nat} {b:Code} {x:Exit} {l':List V} {σ':St} {N nt:Nat} (hk: ∀k,k<=N->yA7 P (zI7 P T H k)) (ad:nt<=100000) {c:Ctx} {Q:QT} (hx:xr4 x=true) (hQ:Q x (envX ms l') σ')
  {l:List V} {σ:St} (h:zI7 P T H (N+1) ms (.loop b) l σ=some (x,l',σ')) (hl:l.length=nt):VW P c nt (.loop b) Q (envX ms l) σ:=by
 intro a w L β hs
 refine zY0 (fun m a w=> ∃l σ L β,m<=N+1/\l.length=nt/\zI7 P T H m ms (.loop b) l σ=some (x,l',σ')/\Sim c nt (envX ms l) σ a w L β) (N+1) ⟨l,σ,L,β,A6 _,hl,h,hs⟩ ?_
 rintro m a w ⟨l,σ,L,β,hm,hl,h,hs⟩
 cases m with
 |zero=>cases h
 |succ k=>
  have h:zo7 P T H (zI7 P T H k) ms (.loop b) l σ=some (x,l',σ'):=h
  simp only[zo7]at h
  split at h
  .rename_i l1 σ1 hb
   obtain⟨e1,e2,e3⟩:=hk k om _ _ _ _ _ _ _ hb om
   have e4:=e3 c (fun ex e s=>ex= .normal/\e=envX ms l1/\s=σ1) ⟨rfl,rfl,rfl⟩
   rw[hl]at e4
   refine wp_mono (e4 a w L β hs) fun ex a' w' q=> ?_
   cases ex with
   |normal=>
    obtain⟨e',s',L',β',aa,_,rfl,rfl⟩:=q
    exact⟨k,Et k,l1,s',L',β',om,om,h,aa⟩
   |exit id=>obtain⟨_,_,_,_,_,q,_⟩:=q;cases q
   |ret=>obtain⟨_,_,_,_,_,q,_⟩:=q;cases q
   |goto _=>exact q.elim
   |panic _=>exact q.elim
   |outgrown=>exact q.elim
  .rename_i ab
   obtain⟨e1,e2,e3⟩:=hk k om _ _ _ _ _ _ _ h om
   have e4:=e3 c (fun ex e s=>ex=x/\e=envX ms l'/\s=σ') ⟨rfl,rfl,rfl⟩
   rw[hl]at e4
   refine wp_mono (e4 a w L β hs) fun ex a' w' q=> ?_
   cases ex with
   |normal=>
    obtain⟨e',s',L',β',aa,q,_,_⟩:=q
    subst q
    exact absurd h (ab _ _)
   |exit id=>obtain⟨e',s',L',β',aa,rfl,rfl,rfl⟩:=q;exact⟨_,_,L',β',aa,hQ⟩
   |ret=>obtain⟨e',s',L',β',aa,rfl,rfl,rfl⟩:=q;exact⟨_,_,L',β',aa,hQ⟩
   |goto _=>exact q.elim
   |panic _=>exact q.elim
   |outgrown=>exact q.elim
theorem yM6 (hT:zs1 P T) (hT0: ∀fv az,T fv az []=none) (hN:(P.funcs.all fun fn=> !(fn.name== "runtime.NumGoroutine"))=true) (hm:P.follows .mixedOrders=true): ∀n k,k<=n->yA7 P (zI7 P T H k):=by
 intro n
 induction n with
 |zero=>
  intro k hk
  have:k=0:=om
  subst this
  intro ms code l σ x l' σ' h
  cases h
 |succ n ih=>
  intro k hk
  rcases Cm k (n+1)with hlt|hge
  .exact ih k om
  have:k=n+1:=om
  subst this
  have ihn:=ih n (A6 n)
  have hc:zs1 P (orT T (zL9 P H (zI7 P T H n))):=xT3 hT (xe3 ihn hN)
  have hpu:zu5 P (orT T (zL9 P H (zI7 P T H n))):=xw5 hT0 (yB8 ihn hN)
  intro ms code l σ x l' σ' h0 hl
  have h:zo7 P T H (zI7 P T H n) ms code l σ=some (x,l',σ'):=h0
  cases code with
  |skip=>simp only[zo7]at h;cases h;exact⟨rfl,rfl,fun c Q hQ=>zg0 .skip Q _ _ hQ⟩
  |label s=>simp only[zo7]at h;cases h;exact⟨rfl,rfl,fun c Q hQ=>zg0 (.label s) Q _ _ hQ⟩
  |exit id=>simp only[zo7]at h;cases h;exact⟨rfl,rfl,fun c Q hQ=>zg0 (.exit id) Q _ _ hQ⟩
  |ret=>simp only[zo7]at h;cases h;exact⟨rfl,rfl,fun c Q hQ=>zg0 .ret Q _ _ hQ⟩
  |seq x1 y1=>
   simp only[zo7]at h
   split at h
   .rename_i l1 σ1 hb
    obtain⟨e1,e2,e3⟩:=ihn _ _ _ _ _ _ _ hb hl
    obtain⟨f1,f2,f3⟩:=ihn _ _ _ _ _ _ _ h om
    refine⟨om,f2,fun c Q hQ=> ?_⟩
    refine zR6 (K:=fun e s=>e=envX ms l1/\s=σ1) (e3 c _ ⟨rfl,rfl⟩) ?_
    rintro e' s' ⟨rfl,rfl⟩
    have:=f3 c Q hQ
    rwa [e1]at this
   .rename_i hno
    obtain⟨e1,e2,e3⟩:=ihn _ _ _ _ _ _ _ h hl
    refine⟨e1,e2,fun c Q hQ=> ?_⟩
    refine zR6 (K:=fun _ _=>False) (e3 c _ ?_) (fun _ _ q=>q.elim)
    show xz6 _ Q x _ _
    cases x with
    |normal=>exact absurd h (hno _ _)
    |_=>exact hQ
  |cond y t f=>
   simp only[zo7]at h
   split at h
   .rename_i hy
    obtain⟨e1,e2,e3⟩:=ihn _ _ _ _ _ _ _ h hl
    exact⟨e1,e2,fun c Q hQ=>zR5 hy (fun _=>e3 c Q hQ) (fun q=>by cases q)⟩
   .rename_i hy
    obtain⟨e1,e2,e3⟩:=ihn _ _ _ _ _ _ _ h hl
    exact⟨e1,e2,fun c Q hQ=>zR5 hy (fun q=>by cases q) (fun _=>e3 c Q hQ)⟩
   .cases h
  |block id b=>
   simp only[zo7]at h
   split at h
   .rename_i id' l1 σ1 hb
    obtain⟨e1,e2,e3⟩:=ihn _ _ _ _ _ _ _ hb hl
    split at h
    .rename_i hid
     cases h
     refine⟨e1,rfl,fun c Q hQ=>zj0 (e3 c _ ?_)⟩
     show(if id'=id then Q .normal _ _ else Q (.exit id') _ _)
     rw[if_pos hid];exact hQ
    .rename_i hid
     cases h
     refine⟨e1,rfl,fun c Q hQ=>zj0 (e3 c _ ?_)⟩
     show(if id'=id then Q .normal _ _ else Q (.exit id') _ _)
     rw[if_neg hid];exact hQ
   .rename_i hno
    obtain⟨e1,e2,e3⟩:=ihn _ _ _ _ _ _ _ h hl
    refine⟨e1,e2,fun c Q hQ=>zj0 (e3 c _ ?_)⟩
    show blkV id Q x _ _
    cases x with
    |exit id'=>exact absurd h (hno _ _ _)
    |_=>exact hQ
  |region id ops draw=>
   cases draw with
   |true=>
    simp only[zo7,if_true]at h
    split at h
    .rename_i l1 σ1 hx
     cases h
     refine⟨(yM7 hc hpu hm (c:=⟨default,fun _=>0,[],[],[]⟩) (id:=id) hx hl).1,rfl,fun c Q hQ=> ?_⟩
     have:=(yM7 hc hpu hm (c:=c) (id:=id) hx hl).2 Q hQ
     simpa using this
    .cases h
   |false=>
    simp only[zo7,Br,if_false]at h
    split at h
    .rename_i l1 σ1 hx
     cases h
     refine⟨(zR9 hc (c:=⟨default,fun _=>0,[],[],[]⟩) _ _ _ _ _ hx hl).1,rfl,fun c Q hQ=> ?_⟩
     have:=(zR9 hc (c:=c) _ _ _ _ _ hx hl).2 (Q .normal) hQ
     exact zg0 _ _ _ _ (show zz1 P c l.length (.region id ops false) Q _ σ from by unfold zz1;simpa using this)
    .cases h
  |loop b=>
   have hh:=h
   simp only[zo7]at h
   split at h
   .rename_i l1 σ1 hb
    obtain⟨e1,e2,e3⟩:=ihn _ _ _ _ _ _ _ hb hl
    obtain⟨f1,f2,f3⟩:=ihn _ _ _ _ _ _ _ h om
    exact⟨om,f2,fun c Q hQ=>yM8 ih hl f2 hQ h0 rfl⟩
   .obtain⟨e1,e2,e3⟩:=ihn _ _ _ _ _ _ _ h hl
    exact⟨e1,e2,fun c Q hQ=>yM8 ih hl e2 hQ h0 rfl⟩
  |rangeFunc _ _ _ _=>simp only[zo7]at h;cases h
  |scope _=>simp only[zo7]at h;cases h
  |goto _=>simp only[zo7]at h;cases h
  |refuse _=>simp only[zo7]at h;cases h
theorem xe4 (hN:(P.funcs.all fun fn=> !(fn.name== "runtime.NumGoroutine"))=true) (hm:P.follows .mixedOrders=true) (H:FuncId->List Nat) (n:Nat) {f:FuncId} {az:List V} {σ σ':St} {v:V} (h:zL9 P H (zI7 P noT H n) (.fn f []) az σ=some (v,σ')):
  VCalls P f az σ (fun r s=>r=v/\s=σ'):=by
 have:=(zt4 (yM6 xv0 (fun _ _=>rfl) hN hm n n (A6 n)) h).1
 rwa [Bc]at this
def xO7 (P:Program) (H:FuncId->List Nat) (n:Nat) (f:FuncId) (az:List V):Option V:=
 match zL9 P H (zI7 P noT H n) (.fn f []) az []with
 |some (v,_)=>if noS v then some v else none
 |none=>none
theorem zn8 (hN:(P.funcs.all fun fn=> !(fn.name== "runtime.NumGoroutine"))=true) (hm:P.follows .mixedOrders=true) (H:FuncId->List Nat) (n:Nat) {f:FuncId} {az:List V} {v:V} (h:xO7 P H n f az=some v):Pure P f az v:=by
 unfold xO7 at h
 split at h
 .rename_i v' s hx
  split at h
  .rename_i hn
   cases h
   have:=(zt4 (yM6 xv0 (fun _ _=>rfl) hN hm n n (A6 n)) hx).2.2 rfl hn
   rwa [Bc]at this
  .cases h
 .cases h
end
section
variable {P:Program} {c:Ctx} {nt:Nat} {n0:Kp} {K:KT} {e:Env} {σ:St} {d:Option Tmp}
variable {x:Operand}{t:TypeId}{k:Operand}
@[go_sem] theorem wop_mapEntry:wop P c nt d (.mapEntry t x k) K fx fx e σ=wfin nt d (xP (mapT P t) σ (zD e x) (zD e k)) K fx e σ:=(yQ rfl rfl).trans rfl
@[go_sem] theorem wop_entryStore {s v:Operand}:wop P c nt d (.entryStore t x s v) K fx fx e σ=wfin nt d (xE σ (zD e x) (zD e s) (zD e v)) K fx e σ:=(yQ rfl rfl).trans rfl
@[go_sem] theorem wop_entry:wop P c nt d (.entry x) K fx fx e σ=wfin nt d (zi4 σ (zD e x)) K fx e σ:=(yQ rfl rfl).trans rfl
@[go_sem] theorem wop_ifc:wop P c nt d (.makeInterface t x) K fx fx e σ=wfin nt d (zW3 (yo6 P t) t (zD e x)) K fx e σ:=(yQ rfl rfl).trans rfl
@[go_sem] theorem wtop_lookup {ok:Bool}:wtop P c nt n0 4 d (.lookup t x k ok) K fx fx e σ=wop P c nt d (.lookup t x k ok) K fx fx e σ:=zR8 (fun _ _ _ _ _ h=>by cases h) (fun _ _ h=>by cases h) (fun _ _=>rfl) (fun _ _ _ h=>by cases h)
@[go_sem] theorem wtop_mapUpdate {v:Operand}:wtop P c nt n0 4 d (.mapUpdate t x k v) K fx fx e σ=wop P c nt d (.mapUpdate t x k v) K fx fx e σ:=zR8 (fun _ _ _ _ _ h=>by cases h) (fun _ _ h=>by cases h) (fun _ _=>rfl) (fun _ _ _ h=>by cases h)
@[go_sem] theorem wtop_entryStore {s v:Operand}:wtop P c nt n0 4 d (.entryStore t x s v) K fx fx e σ=wop P c nt d (.entryStore t x s v) K fx fx e σ:=zR8 (fun _ _ _ _ _ h=>by cases h) (fun _ _ h=>by cases h) (fun _ _=>rfl) (fun _ _ _ h=>by cases h)
theorem zo6 (h2:stOk n0 3 σ (xP (mapT P t) σ (zD e x) (zD e k))) (h:wop P c nt d (.mapEntry t x k) K fx fx e σ):wtop P c nt n0 3 d (.mapEntry t x k) K fx fx e σ:=by
 rw[zz3 (fun _ _ _ _ _ h=>by cases h) (fun _ _=>rfl) h2 (fun _ _ _ h=>by cases h)];exact h
theorem zC1 {s v:Operand} (h2:stOk n0 3 σ (xE σ (zD e x) (zD e s) (zD e v))) (h:wop P c nt d (.entryStore t x s v) K fx fx e σ):wtop P c nt n0 3 d (.entryStore t x s v) K fx fx e σ:=by
 rw[zz3 (fun _ _ _ _ _ h=>by cases h) (fun _ _=>rfl) h2 (fun _ _ _ h=>by cases h)];exact h
theorem zO8 {m:Option (Kk×V)} {id:Nat} {kv:V} {ok:Bool} {g:Ob->R} (hg:g=fun o=>xL m [o] (.mp 0) kv ok) (s:St):xL m s (.mp id) kv ok=match s[id]?.map g with
  |some r=>r
  |none=>xL m [] (.mp 0) kv ok:=by
 subst hg
 unfold xL
 cases m with
 |none=>cases s[id]? <;>rfl
 |some p=>
  obtain⟨kd,z⟩:=p
  by_cases hk:zn5 kd kv=true
  .cases h:s[id]? <;>simp[hk,h]
  .cases h:s[id]? <;>simp[hk,h]
theorem yi6 {ok:Bool} {id:Nat} {kv:V} {m:Option (Kk×V)} {g:Ob->R} (hx:zD e x= .mp id) (hk:zD e k=kv) (hm:mapT P t=m) (hg:g=fun o=>xL m [o] (.mp 0) kv ok) (ad:n0.ob=some (id,g)) (hn:id<n0.n) {v:V} (hv:xL m σ (.mp id) kv ok= .ok v)
  (h:wput nt d v K fx e σ):wtop P c nt n0 1 d (.lookup t x k ok) K fx fx e σ:=by
 have aa: ∀s,evOp P e s (.lookup t x k ok)=xL m s (.mp id) kv ok:=fun s=>by simp only[evOp,hx,hk,hm]
 have ab: ∀s,n0.of s=n0.of σ->evOp P e s (.lookup t x k ok)=evOp P e σ (.lookup t x k ok):=fun s hs=>by
  rw[aa s,aa σ,zO8 hg s,zO8 hg σ]
  have h2:=congrArg Prod.snd hs
  unfold Kp.of at h2
  simp only[ad,Ax,Ai,if_pos hn]at h2
  rw[h2]
 show vtop P c nt n0 1 d (.lookup t x k ok) K e σ
 have h1:=zf2 (P:=P) (e:=e) (σ:=σ) (.lookup t x k ok) (fun _ _ _ _ _ h=>by cases h)
 have h0:isSt (evOp P e σ (.lookup t x k ok))=false:=by simp only[evOp];unfold xL;(repeat' split)<;>rfl
 have hh:hok P d e (.lookup t x k ok):= .inr fun _ _=>rfl
 unfold vtop
 refine⟨fun _=>hh,by rw[zo9 hh];exact h1,fun q=>by simp at q,fun _=> .inr ⟨fun _ _ h=>(by cases h),ab⟩,fun q=>absurd q (by rw[zo9 hh,h0];decide),by rw[zo9 hh];exact zr4 h0, ?_⟩
 rw[zo9 hh,aa σ,hv]
 exact h
@[go_sem] theorem Kp.has_ex {n id:Nat} {ex:List Nat} {ob:Option (Nat×(Ob->R))}:(Kp.mk 0 n ex ob).has id=(decide (id<n)&& !ex.contains id):=by simp[Kp.has]
theorem zW {n0:Nat} {keep:List Nat} {vs:List V} {e:Env} {σ:St} (hn:n0<=σ.length) (h:keep.map e=vs):At n0 keep vs σ e σ:=by
 have ra: ∀i,ren (List.range σ.length) σ.length i=i:=fun i=>by
  by_cases h:i<σ.length
  .exact ze5 h
  .rw[zs2 (by simp;omega)];simp;omega
 refine⟨List.range σ.length,⟨sm,C5,fun i j o hi ho=> ?_,fun i hi=>by rw[D0 om]⟩, ?_⟩
 .obtain⟨h1,h2⟩:=A5.1 hi
  simp at h1 h2
  subst h2
  rw[zr2 ra]
  exact ho
 .rw[h]
  have: ∀l:List V,All2 (argS (ren (List.range σ.length) σ.length)) l l:=by
   intro l
   induction l with
   |nil=>trivial
   |cons a l ih=>exact⟨.inl (zy7 ra a).symm,ih⟩
  exact this _
theorem yz6 {id:Nat} {ops:List Oper} {Q:QT} (q:List (Nat×Nat)) (k:Kp) (hn:k.n<=σ.length) (hm:P.follows .mixedOrders=true) (hd:(zz5 ops q&&zc7 ops)=true) (h:wtr P c nt k ops q 0 ops (Q .normal) fx fx fx e σ):wVW P c nt (.region id ops.toArray true) Q fx fx e σ:=by
 simp only[A8]at hd
 obtain⟨tr,ht,hK⟩:=zp5 ops 0 (Q .normal) e σ h
 exact VW.draw (n0:=k) hm hn hd.1 hd.2 ht hK
end
end Go.Vx
