/-
  Rules of the walk for maps: an entry that is laid for `m[k] op= v`, looked at and laid in regions whose order is open.
  No condition: a library text; nothing of the program is named.
-/
import Derived.Test.YtplackkccmeioaaGreatKAAE
set_option maxHeartbeats 8000000
namespace Go.Vx
open Go
variable {P:Program}{I:St}{e:Env}{I':St}{l:List V}{nt:Nat}{d:Option Tmp}{K:KT}{op:Op}{ms:aiB}{c:Ctx}{H:FuncId->aiB}
def yR (b:Bool):R->Prop
 | .ez p _=>b=true->p
 | .dD p _ _=>b=true->p
 |_=>True
def lA (s:Nat) (rows:List (List V)):Bool:=rows.all λr=>r.length==s
theorem wm {s:Nat} {rows:List (List V)} (h:lA s rows):eK s rows:=λr hr=>by
 have:=Am.1 h r hr
 grind
def Nc:List V->Bool
 | [.int .u8 _]=>true
 |_=>false
theorem Zo {rows:List (List V)} (h:rows.all Nc):GO rows:=λr hr=>by
 have:=Am.1 h r hr
 unfold Nc at this
 grind
def J4 (op:BinOp) (y:Int):Bool:=
 match op with
 | .quo| .rem=>decide (y≠0)
 | .shl| .shr=>decide (0<=y)
 |_=>true
def Nd (op:BinOp) (x y:aiA):Bool:=
 match op with
 | .add=>decide (x.length+y.length<=9223372036854775807)
 |_=>true
def DH (op:BinOp) (x y:V):Bool:=
 match x,y with
 | .int _ _,.int _ b=>J4 op b
 | .str a,.str b=>Nd op a b
 |_,_=>true
theorem Zp (op:BinOp) (k:IntKind) (x y:Int):yR (J4 op y) (BK op k x y):=by
 cases op<;>simp[BK,J4,yR]
theorem Zq (op:BinOp) (x y:aiA):yR (Nd op x y) (BL op x y):=by
 cases op<;>simp[BL,Nd,yR]
theorem Zr (op:BinOp) (ek:Nat) (es:Option (List Pk)) (x y:V):yR (DH op x y) (mS op ek es x y):=by
 unfold mS
 split
 .grind[DH,Zp,J4,yR]
 .exact Zq ..
 all_goals (repeat' split)<;>trivial
theorem Zs (op:BinOp) (ek:Nat) (x:V) (b:Bool):yR b (vF op ek x):=by
 unfold vF GJ
 (repeat' split)<;>trivial
def Nf (sl:aiG) (ar:Option (Nat×Nat×Bool)) (x i:V):Bool:=
 match x,i with
 | .sl _ rows,.int _ k=>(match sl with|some s=>decide (0<=k/\k<rows.length/\(rows.getD k.toNat []).length=s)|none=>true)
 | .ptr _ _,.int _ k=>(match ar with|some (n,_,_)=>decide (0<=k/\k<n)|none=>true)
 | .oI _ _,.int _ k=>(match ar with|some (n,_,_)=>decide (0<=k/\k<n)|none=>true)
 | .cL _ _ _ _ m,.int _ k=>decide (0<=k/\k<m)
 | .jZ _ _ _ n,.int _ k=>decide (0<=k/\k<n)
 |_,_=>true
theorem Zt (sl:aiG) (ar:Option (Nat×Nat×Bool)) (x i:V):yR (Nf sl ar x i) (vI sl ar x i):=by
 unfold vI
 split
 all_goals first|trivial|simp only[Nf]
 all_goals split<;>first|trivial|simp only[yR,ai7,imp_self]
def wq (x i:V) (ar:Option (Nat×Nat×Bool)):Bool:=
 match x,i with
 | .str b,.int _ k=>decide (0<=k/\k<b.length)
 | .agg cs,.int _ k=>(match ar with|some (n,s,false)=>decide (0<=k/\k<n/\(k.toNat*s)<cs.length)|_=>true)
 |_,_=>true
theorem Zu (x i:V) (str:Bool) (ar:Option (Nat×Nat×Bool)):yR (wq x i ar) (vJ x i str ar):=by
 unfold vJ
 split
 .simp only[wq]
  split<;>first|trivial|simp only[yR,ai7,imp_self]
 .split
  all_goals simp[wq,yR]
 trivial
def Hr (es:aiG) (x:V) (lo hi:Option V):Bool:=
 match x with
 | .cL _ s n l0 m=>(match oj lo 0,oj hi m,es with|some l,some h,some z=>decide (0<=l/\l<=h/\(h<=m\/(l0:Int)+h<=n)/\z=s)|_,_,_=>true)
 | .str s=>(match oj lo 0,oj hi s.length with|some l,some h=>decide (0<=l/\l<=h/\h<=s.length)|_,_=>true)
 | .sl _ rows=>(match oj lo 0,oj hi rows.length,es with|some l,some h,some z=>decide (0<=l/\l<=h/\h<=rows.length)&&lA z rows|_,_,_=>true)
 |_=>true
theorem Zv (ar:Option (Nat×Nat×Bool)) (k:Nat) (es:aiG) (x:V) (lo hi:Option V):yR (Hr es x lo hi) (sK ar k es x lo hi):=by
 unfold sK
 split
 .split
  .rename_i h1 h2
   split
   all_goals simp_all[Hr,yR]
  trivial
 .split<;>trivial
 .split
  .rename_i h1 h2
   split
   all_goals simp_all[Hr,yR]
  trivial
 .split
  .rename_i h1 h2
   split
   all_goals simp_all[Hr,yR,wm]
  trivial
 trivial
def Ng (es:aiG) (x lo hi mx:V):Bool:=
 match x,lo,hi,mx,es with
 | .sl _ rows,.int _ l,.int _ h,.int _ m,some z=>decide (0<=l/\l<=h/\h<=rows.length/\m=h)&&lA z rows
 | .cL _ s _ _ n,.int _ l,.int _ h,.int _ m,some z=>decide (0<=l/\l<=h/\h<=m/\m<=n/\z=s)
 |_,_,_,_,_=>true
theorem Zw (es:aiG) (x lo hi mx:V):yR (Ng es x lo hi mx) (yh es x lo hi mx):=by
 unfold yh
 split
 all_goals simp_all[Ng,yR,wm]
def Rm (x:V):Bool:=
 match x with
 | .sl _ rows=>rows.all Nc
 |_=>true
theorem Zx (ks kd:Option Kd) (x:V):yR (Rm x) (vL ks kd x):=by
 unfold vL
 split
 .split<;>trivial
 .split<;>trivial
 .split<;>trivial
 .split
  .exact Zo
  trivial
 trivial
def Hs (el:Option (Nat×Nat)) (l m:V):Bool:=
 match el,l,m with
 |some (_,lu),.int .i64 n,.int .i64 k=>decide (0<=n/\n<=k/\k.toNat*lu<=140737488355328)
 |_,_,_=>false
theorem Zy (el:Option (Nat×Nat)) (zs:Option (List V)) (I:St) (l m:V):yR (Hs el l m) (vM el zs I l m):=by
 unfold vM
 split
 all_goals simp[Hs,yR]
theorem Zz (el:Option (Nat×Nat)) (zs:Option (List V)) (I:St) (l m:V):yR (Hs el l m) (vN el zs I l m):=by
 unfold vN
 split
 all_goals simp[Hs,yR]
def Nh (sl:aiG) (I:St) (x:V):Bool:=
 match x with
 | .cL id s n lo m=>(match I[id]? with|some (.cd rows s')=>decide (sl=some s/\s'=s/\rows.length=n/\lo+m<=n)|_=>true)
 |_=>true
theorem ZA (sl:aiG) (zs:Option (List V)) (I:St) (x:V):yR (Nh sl I x) (vO sl zs I x):=by
 unfold vO
 split
 .split
  all_goals simp_all[Nh,yR]
 trivial
def qJ (I:St):V->Bool
 | .cL id s n lo m=>(match I[id]? with|some (.cd rows s')=>decide (s'=s/\rows.length=n/\lo+m<=n)&&xI ((rows.drop lo).take m)|_=>false)
 |_=>true
theorem Ht {y:V} (h:qJ I y):sG I y:=by
 unfold sG
 split
 .simp only[qJ]at h
  split at h
  .rename_i h1
   rw[h1]
   simp only[Ac,ai7]at h
   exact⟨h.1.1,h.1.2.1,h.1.2.2,h.2⟩
  grind
 simp
def FQ (el:Option (Nat×Nat)) (k2:Nat) (I:St) (x y:V):Bool:=
 match el,BN k2 I y with
 |some (s,lu),some r2=>
  (match x with
  | .sl .full r1=>qJ I y&&decide ((r1.length+r2.length)*lu<=140737488355328)&&lA s r1&&lA s r2
  | .sl (.app id) r1=>(match I[id]? with
   |some (.app n s')=>qJ I y&&decide (r1.length=n/\s'=s/\(r1.length+r2.length)*lu<=140737488355328)&&lA s r2
   |_=>true)
  | .cL id s1 n lo m=>(match I[id]? with
   |some (.cd rows s')=>qJ I y&&decide (s1=s/\s'=s/\rows.length=n)&&lA s r2&&(decide (lo+m+r2.length<=n)||decide (lo=0/\m=n/\(n+r2.length)*lu<=140737488355328))
   |_=>true)
  |_=>true)
 |_,_=>true
theorem ZB (el:Option (Nat×Nat)) (k2:Nat) (I:St) (x y:V):yR (FQ el k2 I x y) (sH el k2 I x y):=by
 unfold sH
 split
 .rename_i h2
  split
  .simp_all[FQ,yR,Ht,wm]
  .split
   all_goals simp_all[FQ,yR,Ht,wm]
  .split
   .rename_i h3
    split
    .simp_all[FQ,yR,Ht,wm]
    simp_all[FQ,yR,Ht,wm];omega
   trivial
  trivial
 trivial
def Ni (I:St):V->Bool
 | .cL id s n lo m=>(match I[id]? with|some (.cd rows s')=>decide (s'=s/\rows.length=n/\lo+m<=n)|_=>false)
 |_=>true
theorem Rn {y:V} (h:Ni I y):BO I y:=by
 unfold BO
 split
 .simp only[Ni]at h
  grind
 simp
def Hu (el:Option (Nat×Nat)) (k2:Nat) (I:St) (x y:V):Bool:=
 match x with
 | .cL id s1 n lo m=>(match el,GL k2 I y with
  |some (s,lu),some r2=>(match I[id]? with
   |some (.cd rows s')=>Ni I y&&decide (s1=s/\s'=s/\rows.length=n)&&lA s r2&&(decide (lo+m+r2.length<=n)||decide (lo=0/\m=n/\(n+r2.length)*lu<=140737488355328))
   |_=>true)
  |_,_=>true)
 |x=>match el,BN k2 I y with
 |some (s,lu),some r2=>
  (match x with
  | .sl .full r1=>qJ I y&&decide ((r1.length+r2.length)*lu<=140737488355328)&&lA s r1&&lA s r2&&(!r2.isEmpty||r1.isEmpty)
  |_=>true)
 |_,_=>true
theorem ZC (el:Option (Nat×Nat)) (k2:Nat) (I:St) (x y:V):yR (Hu el k2 I x y) (sI el k2 I x y):=by
 unfold sI
 split
 .split
  .rename_i h2
   split
   .rename_i h3
    split
    .simp_all[Hu,yR,Rn,wm]
    simp_all[Hu,yR,Rn,wm];omega
   trivial
  trivial
 .split
  .rename_i h2
   split
   .simp only[Hu,h2,yR,Ac,ai7]
    grind[Ht,wm]
   trivial
  trivial
def Hv (L:Bool) (es:aiG) (len:Nat) (parts:List (Nat×V)):Bool:=
 match es with
 |some s=>(parts.all λp=>(L||oi p.2)&&(xO p.2).length==s)&&decide (len*s<=16777216/\0<s)
 |none=>true
theorem ZD (es:aiG) (len:Nat) (parts:List (Nat×V)):yR (Hv false es len parts) (vK es len parts):=by
 unfold vK
 split
 .split
  all_goals simp[Hv,yR]
 trivial
theorem ZE (es:aiG) (len:Nat) (I:St) (parts:List (Nat×V)):yR (Hv true es len parts) (vP es len I parts):=by
 unfold vP
 split
 .split
  all_goals simp[Hv,yR]
 trivial
def DI (P:Program) (L:Bool) (e:Env) (I:St):Op->Bool
 | .buildSlice t n ps=>Hv L ((eI P t).map (·.1)) n (ps.toList.map λp=>(p.1,zG e p.2))
 | .binOp op _ x y _=>DH op (zG e x) (zG e y)
 | .convert _ _ x=>Rm (zG e x)
 | .slice t x lo hi none=>if L then false else Hr ((eI P t).map (·.1)) (zG e x) (lo.map (zG e)) (hi.map (zG e))
 | .slice t x (some lo) (some hi) (some mx)=>Ng ((eI P t).map (·.1)) (zG e x) (zG e lo) (zG e hi) (zG e mx)
 | .indexAddr t x i=>Nf (fa P t) (iP P t) (zG e x) (zG e i)
 | .index t x i=>wq (zG e x) (zG e i) (iP P t)
 | .makeSlice t l m=>Hs (eI P t) (zG e l) (zG e m)
 | .call ⟨.builtin .append,⟨[x,y]⟩,⟨[t,t']⟩⟩=>if L then Hu (eI P t) (dJ P t') I (zG e x) (zG e y)else FQ (eI P t) (dJ P t') I (zG e x) (zG e y)
 | .call ⟨.builtin .clear,⟨[x]⟩,⟨[t]⟩⟩=>Nh ((eI P t).map (·.1)) I (zG e x)
 |_=>true
def ZF:R->Bool
 | .ez _ _| .dD _ _ _=>false
 |_=>true
theorem yU {b:Bool} {r:R} (h:ZF r):yR b r:=by
 cases r<;>first|trivial|cases h
theorem Nj (op:Op):yR (DI P false e I op) (cu P e I op):=by
 unfold cu
 split
 .trivial
 .trivial
 .refine yU ?_;unfold x9;(repeat' split)<;>rfl
 .refine yU ?_;unfold rL;(repeat' split)<;>rfl
 .refine yU ?_;unfold vH;(repeat' split)<;>rfl
 .refine yU ?_;unfold yf;(repeat' split)<;>rfl
 .exact ZD ..
 .refine yU ?_;unfold nf;(repeat' split)<;>first|rfl|(unfold rK;(repeat' split)<;>rfl)
 .refine yU ?_;unfold vG;(repeat' split)<;>rfl
 .refine yU ?_;unfold ya;(repeat' split)<;>rfl
 .split
  .grind[Zs]
  .split
   .refine yU ?_;unfold yr;(repeat' split)<;>rfl
   .exact Zr ..
 .refine yU ?_;unfold nb;(repeat' split)<;>rfl
 .exact Zx ..
 .exact Zv ..
 .exact Zw ..
 .refine yU ?_;unfold yc;(repeat' split)<;>rfl
 .refine yU ?_;unfold yi;(repeat' split)<;>rfl
 .exact Zt ..
 .exact Zu ..
 .refine yU ?_;unfold yb;(repeat' split)<;>rfl
 .refine yU ?_;unfold yj;(repeat' split)<;>rfl
 .exact Zy ..
 .refine yU ?_;unfold ye;(repeat' split)<;>rfl
 .exact ZB ..
 .exact ZA ..
 .refine yU ?_;unfold qm;(repeat' split)<;>rfl
 .refine yU ?_;unfold qm;(repeat' split)<;>rfl
 .refine yU ?_;unfold yq;(repeat' split)<;>rfl
 .refine yU ?_;unfold yo;(repeat' split)<;>rfl
 .refine yU ?_;unfold xZ;(repeat' split)<;>rfl
 .refine yU ?_;unfold xW;(repeat' split)<;>rfl
 .refine yU ?_;unfold xW;(repeat' split)<;>rfl
 .refine yU ?_;unfold wD;(repeat' split)<;>rfl
 .refine yU ?_;unfold xT;(repeat' split)<;>rfl
 .refine yU ?_;unfold yt;(repeat' split)<;>rfl
 .refine yU ?_;unfold qp;(repeat' split)<;>rfl
 .refine yU ?_;unfold yv;(repeat' split)<;>rfl
 .refine yU ?_;unfold ni;(repeat' split)<;>rfl
 .trivial
theorem ZG (op:Op):yR (DI P false e I op&&DI P true e I op) (ir P e I op):=by
 have lj: ∀{b c:Bool} {r:R},yR b r->yR (c&&b) r:=by
  intro b c r h
  cases r with
  |ez p v=>exact λq=>h (by grind)
  |dD p v s=>exact λq=>h (by grind)
  |_=>trivial
 have aa: ∀{b c:Bool} {r:R},yR b r->yR (b&&c) r:=by
  simp_all
 unfold ir
 split
 .exact lj (ZE ..)
 .exact lj (Zz ..)
 .refine yU ?_;unfold yk;(repeat' split)<;>rfl
 .refine lj (b:=false) ?_;unfold yg;(repeat' split)<;>first|trivial|exact λq=>by cases q
 .exact lj (ZC ..)
 .refine yU ?_;unfold ni;(repeat' split)<;>rfl
 grind[Nj]
def qK (b:Bool) (I:St):R->Option (V×St)
 | .ok v=>some (v,I)
 | .ez _ v=>if b then some (v,I)else none
 | .st v I'=>some (v,I')
 | .dD _ v I'=>if b then some (v,I')else none
 |_=>none
def Nk (P:Program) (d:Option Tmp) (e:Env) (I:St) (op:Op):Option (V×St):=
 if lV e d then qK (DI P false e I op&&DI P true e I op) I (ir P e I op)else qK (DI P false e I op) I (cu P e I op)
theorem Nl {b:Bool} {r:R} {v:V} (hn:yR b r) (h:qK b I r=some (v,I')) (hk:fe nt d v K e I'):ml nt d r K e I:=by
 cases r with
 |fail=>cases h
 |ok v'=>cases h;exact hk
 |ez p v'=>
  simp only[qK]at h
  split at h
  .rename_i hb
   cases h;exact⟨hn hb,hk⟩
  grind
 |st v' s=>cases h;exact hk
 |dD p v' s=>
  simp only[qK]at h
  split at h
  .rename_i hb
   cases h;exact⟨hn hb,hk⟩
  grind
 |all f=>cases h
 |any l=>cases h
theorem ZH {v:V} (h:Nk P d e I op=some (v,I')) (hk:fe nt d v K e I'):ml nt d (xX P d e I op) K e I:=by
 unfold Nk at h
 unfold xX
 split at h
 .rename_i hh
  rw[ai2 hh]
  grind[Nl,ZG]
 .rename_i hh
  rw[ai1 hh]
  grind[Nl,Nj]
def eP (ms:aiB) (l:List V):Env:=λt=>if t<100000 then l.getD t .u else if ms.contains (t - 100000)then .cz []else .u
theorem ZI {t:Nat} {v:V} (h:t<l.length) (hl:l.length<=100000):fu (eP ms l) t v=eP ms (l.set t v):=by
 funext k
 simp only[fu,eP]
 grind
def qM (d:Option Tmp) (v:V) (l:List V):Option (List V):=
 match d with
 |some t=>if t<l.length then some (l.set t v)else none
 |none=>some l
theorem J5 {v:V} {l':List V} (h:qM d v l=some l') (hl:l.length<=100000):l'.length=l.length/\ ∀(K:KT) (I:St),K (eP ms l') I->fe l.length d v K (eP ms l) I:=by
 unfold qM at h
 unfold fe
 split at h
 .grind[ZI]
 grind
def J6 (g:Option (Nat×Bool)) (ops:List Oper) (e:Env):Option Bool:=
 match g with
 |none=>some true
 |some (j,want)=>(match j5 ops j with|some t=>(match e t with| .bool b=>some (b==want)| .cz []=>some false|_=>none)|none=>none)
theorem J7 {g:Option (Nat×Bool)} {ops:List Oper} {A B:Prop} {r:Bool} (h:J6 g ops e=some r) (ha:r=true->A) (hb:r=false->B):uF g ops e A B:=by
 unfold J6 at h
 unfold uF
 split at h
 .grind
 .split at h
  .rename_i t ht
   simp only[ht]
   unfold kH
   grind
  grind
abbrev k5:=V->List V->St->Option (V×St)
def rW (P:Program) (call:k5):Prop:= ∀fv az I v I',call fv az I=some (v,I')-> ∀c,VC P c fv az I (λr s=>r=v/\s=I')
def DJ (P:Program) (call:k5) (d:Option Tmp) (e:Env) (I:St) (op:Op):Option (V×St):=
 match op with
 | .call ⟨.value f,args,_⟩=>call (zG e f) (args.toList.map (zG e)) I
 |op=>Nk P d e I op
theorem ZJ {call:k5} (hc:rW P call) {v:V} (h:DJ P call d e I op=some (v,I')) (hk:fe nt d v K e I'):jB P c nt d op K e I:=by
 unfold DJ at h
 unfold jB
 split at h
 .refine(hc _ _ _ _ _ h c).mono ?_
  grind
 .rename_i aa
  split
  .grind
  grind[ZH]
def Hw (P:Program) (call:k5) (ms:aiB) (ops:List Oper):List Oper->List V->St->Option (List V×St)
 | [],l,I=>some (l,I)
 |o::rest,l,I=>
  match J6 o.guard ops (eP ms l)with
  |none=>none
  |some true=>(match DJ P call o.dst (eP ms l) I o.op with
   |some (v,I')=>(match qM o.dst v l with|some l'=>Hw P call ms ops rest l' I'|none=>none)
   |none=>none)
  |some false=>(match qM o.dst (.cz []) l with|some l'=>Hw P call ms ops rest l' I|none=>none)
theorem J8 {P:Program} {call:k5} (hc:rW P call) {ms:aiB} {ops:List Oper} {c:Ctx}: ∀(rest:List Oper) (l:List V) (I:St) (l':List V) (I':St),Hw P call ms ops rest l I=some (l',I')->l.length<=100000->
  l'.length=l.length/\ ∀K:KT,K (eP ms l') I'->j6 P c l.length ops rest K (eP ms l) I
 | [],l,I,l',I',h,hl=>by cases h;exact⟨rfl,λK hk=>hk⟩
 |o::rest,l,I,l',I',h,hl=>by
  unfold Hw at h
  split at h
  .cases h
  .rename_i hg
   split at h
   .rename_i v s1 ho
    split at h
    .rename_i l1 hp
     obtain⟨e1,e2⟩:=J5 (ms:=ms) hp hl
     obtain⟨e3,e4⟩:=J8 hc (c:=c) rest l1 s1 l' I' h om
     refine⟨om,λK hk=> ?_⟩
     refine J7 hg (λ_=> ?_) sm
     grind[ZJ]
    grind
   grind
  .rename_i hg
   split at h
   .rename_i l1 hp
    obtain⟨e1,e2⟩:=J5 (ms:=ms) hp hl
    obtain⟨e3,e4⟩:=J8 hc (c:=c) rest l1 I l' I' h om
    refine⟨om,λK hk=> ?_⟩
    refine J7 hg sm (λ_=> ?_)
    grind
   grind
def Hx:Op->Bool
 | .buildSlice .. | .makeSlice .. | .convert .. | .call _| .next .. | .slice .. =>false
 |_=>true
theorem ZK (h:Hx op): ∀e I,ir P e I op=cu P e I op:=by
 intro e I
 cases op<;>first|rfl|cases h
def Ro (n0:Kp) (e:Env):Op->Bool
 | .load _ x=>CT n0 (zG e x)
 |_=>false
def ZL:Op->Bool
 | .alloc _| .box .. =>true
 |_=>false
def Rp (P:Program) (n0:Kp) (k:Nat) (d:Option Tmp) (e:Env) (I:St) (op:Op):Bool:=
 (!lV e d||Hx op)&&(k !=0||lW op==0)&&(k !=1||Ro n0 e op)&&(!qH (cu P e I op)||decide (3<=k))&&(k==4||(k==3&&ZL op)|| !qH (cu P e I op))
def DK (P:Program) (call:k5) (n0:Kp) (k:Nat) (d:Option Tmp) (e:Env) (I:St) (op:Op):Option (V×St):=
 match op with
 | .call ⟨.value f,args,_⟩=>if k=0 then(match call (zG e f) (args.toList.map (zG e)) []with|some (v,_)=>if gM v&&gM (zG e f)&&(args.toList.map (zG e)).all gM then some (v,I)else none|none=>none)
   else if k=4 then(match call (zG e f) (args.toList.map (zG e)) I with|some (v,I')=>if I.length<=I'.length then some (v,I')else none|none=>none)
   else none
 |op=>if Rp P n0 k d e I op then qK (DI P false e I op) I (cu P e I op)else none
def DL (P:Program) (call:k5):Prop:= ∀fv az v I',call fv az []=some (v,I')->gM v=true->gM fv=true->az.all gM=true-> ∀c s,VC P c fv az s (λr s'=>r=v/\s'=s)
theorem ZM {call:k5} (hc:rW P call) (hp:DL P call) {n0:Kp} {k:Nat} {v:V} (h:DK P call n0 k d e I op=some (v,I')) (hk:fe nt d v K e I'):fW P c nt n0 k d op K e I:=by
 unfold DK at h
 unfold fW
 split at h
 .split at h
  .rename_i ab
   split at h
   .rename_i v' s' aa
    split at h
    .rename_i hn
     cases h
     simp only[Ac]at hn
     subst ab
     refine⟨v,I, ?_,λ_=>rfl,om,om,hk⟩
     rw[ai2 rfl]
     exact λs=>hp _ _ _ _ aa hn.1.1 hn.1.2 hn.2 c s
    grind
   grind
  .split at h
   .rename_i ab ad
    split at h
    .rename_i v' s' aa
     split at h
     .rename_i hle
      cases h
      subst ad
      refine⟨v,I', ?_,om,om,hle,hk⟩
      rw[ai1 dC,ai1 dC]
      exact hc _ _ _ _ _ aa c
     grind
    grind
   grind
 .rename_i ae
  split
  .grind
  .split at h
   .rename_i ht
    simp only[Rp,Ac,Ce,Do,bne_iff_ne,ai8,ai7]at ht
    obtain⟨⟨⟨⟨t1,t2⟩,t3⟩,t4⟩,t5⟩:=ht
    have hh:db P d e op:=by
     rcases t1 with t1|t1
     .exact .inl t1
     .exact .inr (ZK t1)
    rw[qF hh]
    refine⟨λ_=>hh, ?_,om,λq=> ?_,(by grind), ?_,Nl (Nj op) h hk⟩
    .cases hr:cu P e I op with
     |all f=>rw[hr]at h;cases h
     |any l=>rw[hr]at h;cases h
     |_=>rfl
    .have:=t3.resolve_left (λw=>w q)
     unfold Ro at this
     grind
    .rcases t5 with (t5|t5)|t5
     .grind[MG]
     .obtain⟨t5,t6⟩:=t5
      subst t5
      cases op with
      |alloc t=>simp only[cu];unfold rL;split<;>first|trivial|exact⟨sm,λ_=> .inl ⟨_,rfl⟩⟩
      |box t x=>simp only[cu];unfold vH;split<;>first|trivial|exact⟨sm,λ_=> .inl ⟨_,rfl⟩⟩
      |_=>cases t6
     grind[zu]
   grind
def FR (P:Program) (call:k5) (n0:Kp) (ms:aiB) (ops:List Oper) (q:List (Nat×Nat)):Nat->List Oper->List V->St->Option (List V×St)
 |_,[],l,I=>some (l,I)
 |i,o::rest,l,I=>
  match J6 o.guard ops (eP ms l)with
  |none=>none
  |some true=>(match DK P call n0 (zZ q i o) o.dst (eP ms l) I o.op with
   |some (v,I')=>(match qM o.dst v l with|some l'=>FR P call n0 ms ops q (i+1) rest l' I'|none=>none)
   |none=>none)
  |some false=>(match qM o.dst (.cz []) l with|some l'=>FR P call n0 ms ops q (i+1) rest l' I|none=>none)
theorem Nn {P:Program} {call:k5} (hc:rW P call) (aa:DL P call) {n0:Kp} {ms:aiB} {ops:List Oper} {q:List (Nat×Nat)} {c:Ctx}: ∀(rest:List Oper) (i:Nat) (l:List V) (I:St) (l':List V) (I':St),FR P call n0 ms ops q i rest l I=some (l',I')->l.length<=100000->
  l'.length=l.length/\ ∀K:KT,K (eP ms l') I'->rR P c l.length n0 ops q i rest K (eP ms l) I
 | [],i,l,I,l',I',h,hl=>by cases h;exact⟨rfl,λK hk=>hk⟩
 |o::rest,i,l,I,l',I',h,hl=>by
  unfold FR at h
  split at h
  .cases h
  .rename_i hg
   split at h
   .rename_i v s1 ho
    split at h
    .rename_i l1 hp
     obtain⟨e1,e2⟩:=J5 (ms:=ms) hp hl
     obtain⟨e3,e4⟩:=Nn hc aa (c:=c) rest (i+1) l1 s1 l' I' h om
     refine⟨om,λK hk=> ?_⟩
     refine J7 hg (λ_=> ?_) sm
     grind[ZM]
    grind
   grind
  .rename_i hg
   split at h
   .rename_i l1 hp
    obtain⟨e1,e2⟩:=J5 (ms:=ms) hp hl
    obtain⟨e3,e4⟩:=Nn hc aa (c:=c) rest (i+1) l1 I l' I' h om
    refine⟨om,λK hk=> ?_⟩
    refine J7 hg sm (λ_=> ?_)
    grind
   grind
def Np:Nat->List Oper->List (Nat×Nat)
 |_,[]=> []
 |i,o::os=>(match o.op with| .call ⟨.value _,_,_⟩=> [(i,0)]|_=> [])++Np (i+1) os
def Nq:Nat->List Oper->List (Nat×Nat)
 |_,[]=> []
 |i,o::os=>(match o.op with| .store .. => [(i,4)]| .call ⟨.builtin .append,_,_⟩=> [(i,4)]|_=> [])++Nq (i+1) os
def Rq:Nat->List Oper->List (Nat×Nat)
 |_,[]=> []
 |i,o::os=>(match o.op with| .store .. => [(i,4)]| .call ⟨.builtin .append,_,_⟩=> [(i,4)]| .call ⟨.value _,_,_⟩=> [(i,4)]|_=> [])++Rq (i+1) os
def Rr:Nat->List Oper->List (Nat×Nat)
 |_,[]=> []
 |i,o::os=>(match o.op with| .store .. => [(i,4)]| .load .. => [(i,4)]| .alloc _=> [(i,4)]| .call ⟨.builtin .append,_,_⟩=> [(i,4)]| .call ⟨.value _,_,_⟩=> [(i,4)]|_=> [])++Rr (i+1) os
def Rs (ops:List Oper):List (List (Nat×Nat)):= [[],Np 0 ops,Nq 0 ops,Np 0 ops++Nq 0 ops,Rq 0 ops,Rr 0 ops]
def J9 (P:Program) (call:k5) (ms:aiB) (ops:List Oper) (l:List V) (I:St):List (List (Nat×Nat))->Option (List V×St)
 | []=>none
 |q::qs=>if uN ops q then(match FR P call (Kp.pre I.length) ms ops q 0 ops l I with|some r=>some r|none=>J9 P call ms ops l I qs)else J9 P call ms ops l I qs
def Nr (P:Program) (call:k5) (ms:aiB) (ops:List Oper) (l:List V) (I:St):Option (List V×St):=
 if rQ ops then J9 P call ms ops l I (Rs ops)else none
theorem Rt {call:k5} (hc:rW P call) (aa:DL P call) (hm:P.follows .mixedOrders) {ops:List Oper} {id:Nat} {l':List V} (h:Nr P call ms ops l I=some (l',I')) (hl:l.length<=100000):
  l'.length=l.length/\ ∀Q:QT,Q .normal (eP ms l') I'->VW P c l.length (.region id ops.toArray true) Q (eP ms l) I:=by
 unfold Nr at h
 split at h
 .rename_i he
  have go: ∀q,uN ops q=true->FR P call (Kp.pre I.length) ms ops q 0 ops l I=some (l',I')->l'.length=l.length/\ ∀Q:QT,Q .normal (eP ms l') I'->VW P c l.length (.region id ops.toArray true) Q (eP ms l) I:=by
   intro q hd hx
   obtain⟨e1,e2⟩:=Nn hc aa (c:=c) ops 0 l I l' I' hx hl
   exact⟨e1,λQ hq=>yI q I.length rfl hm (by grind) (e2 (Q .normal) hq)⟩
  generalize Rs ops=qs at h
  induction qs<;>grind[J9]
 grind
abbrev RunT:=aiB->Code->List V->St->Option (Exit×List V×St)
def Ru:Exit->Bool
 | .normal| .ret=>true
 |_=>false
def uS (P:Program) (H:FuncId->aiB) (run:RunT):k5:=λfv az I=>
 match fv with
 | .fn f bY=>(match P.funcs[f]? with
  |some fn=>(match fn.body with
   |some code=>if decide ((az++bY).length<=fn.ntmps)&&decide (fn.ntmps<=100000)then
     (match run (H f) code ((az++bY)++List.replicate (fn.ntmps - (az++bY).length) .u) I with
     |some (x,l',I')=>if Ru x&&decide (I.length<=I'.length)then(match mq P fn.results.toList (eP (H f) l') I' with|some v=>some (v,I')|none=>none)else none
     |none=>none)else none
   |none=>none)
  |none=>none)
 |_=>none
def AG (T call:k5):k5:=λfv az I=>match T fv az I with|some r=>some r|none=>call fv az I
theorem ZN {T call:k5} (hT:rW P T) (hc:rW P call):rW P (AG T call):=by
 intro fv az I v I' h c
 unfold AG at h
 split at h
 .rename_i r hr
  cases h
  exact hT _ _ _ _ _ hr c
 .exact hc _ _ _ _ _ h c
theorem ZO {T call:k5} (hT: ∀fv az,T fv az []=none) (hc:DL P call):DL P (AG T call):=by
 intro fv az v I' h
 unfold AG at h
 rw[hT]at h
 exact hc fv az v I' h
def eQ:k5:=λ_ _ _=>none
theorem Rv:rW P eQ:=λ_ _ _ _ _ h=>by cases h
def pX (P:Program) (T:k5) (H:FuncId->aiB) (run:RunT):RunT:=λms code l I=>
 match code with
 | .skip=>some (.normal,l,I)
 | .label _=>some (.normal,l,I)
 | .exit id=>some (.exit id,l,I)
 | .ret=>some (.ret,l,I)
 | .seq x y=>(match run ms x l I with
  |some (.normal,l',I')=>run ms y l' I'
  |r=>r)
 | .cond x t f=>(match zG (eP ms l) x with| .bool true=>run ms t l I| .bool false=>run ms f l I|_=>none)
 | .block id b=>(match run ms b l I with
  |some (.exit sW,l',I')=>if sW=id then some (.normal,l',I')else some (.exit sW,l',I')
  |r=>r)
 | .region _ ops draw=>if draw then(match Nr P (AG T (uS P H run)) ms ops.toList l I with|some (l',I')=>some (.normal,l',I')|none=>none)
   else(match Hw P (AG T (uS P H run)) ms ops.toList ops.toList l I with|some (l',I')=>some (.normal,l',I')|none=>none)
 | .loop b=>(match run ms b l I with
  |some (.normal,l',I')=>run ms (.loop b) l' I'
  |r=>r)
 |_=>none
def tj (P:Program) (T:k5) (H:FuncId->aiB):Nat->RunT
 |0=>λ_ _ _ _=>none
 |n+1=>pX P T H (tj P T H n)
def Rw:Exit->Bool
 | .normal| .ret| .exit _=>true
 |_=>false
def Hy (P:Program) (run:RunT):Prop:= ∀ms code l I x l' I',run ms code l I=some (x,l',I')->l.length<=100000->
 l'.length=l.length/\Rw x=true/\ ∀(c:Ctx) (Q:QT),Q x (eP ms l') I'->VW P c l.length code Q (eP ms l) I
theorem ZP (hl:l.length<=100000) (n:Nat):eP [] (l++List.replicate n .u)=j7 0 l:=by
 funext t
 have e1:=Mo l 0 t
 rw[Ad]at e1
 rw[e1]
 unfold eP
 grind
theorem ZQ {t:Nat}:fu (eP ms l) (100000+t) (.cz [])=eP (t::ms) l:=by
 funext k
 unfold fu eP
 by_cases hk:k=100000+t
 .simp_all;omega
 .rw[ai1 hk]
  by_cases h0:k<100000
  .rw[ai2 h0,ai2 h0]
  .have h2:(k - 100000==t)=false:=by simp;omega
   rw[ai1 h0,ai1 h0,Dg,h2,C5]
theorem VW.marks {code:Code} {Q:QT} (hn:nt<=100000) (ms:aiB) (h:VW P c nt code Q (eP ms l) I):VW P c nt code Q (eP [] l) I:=by
 induction ms with
 |nil=>exact h
 |cons t ms ih=>
  refine ih ?_
  have h2:=uO (P:=P) (c:=c) (nt:=nt) (Q:=Q) (e:=eP ms l) (I:=I) t (y:=code) hn
  rw[ZQ]at h2
  exact h2 h
theorem DM {k i:Nat}:cK (List.range k) k i=i:=by
 grind[qE,qu]
theorem ZR {n0:Nat} (h:n0<=I.length):gE n0 (List.range I.length) I I:=by
 refine⟨sm,Bf,λi j o hi ho=> ?_,(by grind)⟩
 grind[AB,DM]
theorem Ka {run:RunT} (hr:Hy P run) {f:FuncId} {bY az:List V} {v:V} (h:uS P H run (.fn f bY) az I=some (v,I')):
  bN P f (az++bY) I (λr s=>r=v/\s=I')/\(P.funcs[f]?.bind (·.body)).isSome=true/\(I= []->gM v=true->bN P f (az++bY) I (λr s=>r=v/\s= [])):=by
 unfold uS at h
 simp only at h
 split at h
 .rename_i fn hf
  split at h
  .rename_i code hb
   split at h
   .rename_i hlen
    simp only[Ac,ai7]at hlen
    split at h
    .rename_i x l' s1 hx
     split at h
     .rename_i aa
      simp only[Ac,ai7]at aa
      split at h
      .rename_i v' hv
       cases h
       have ab:((az++bY)++List.replicate (fn.ntmps - (az++bY).length) V.u).length=fn.ntmps:=by
        grind
       obtain⟨e1,e2,e3⟩:=hr _ _ _ _ _ _ _ hx om
       have key: ∀R:V->St->Prop,qx I.length R v I'->bN P f (az++bY) I R:=by
        intro R hR
        refine bN.oP (rs:=fn.results.toList) I.length hf rfl sm hb rfl hlen.1 λc _ _=> ?_
        rw[<-ZP om (fn.ntmps - (az++bY).length)]
        refine VW.marks hlen.2 (H f) ?_
        have:=e3 c (mu P fn.results.toList I.length R)
        rw[ab]at this
        refine this ?_
        have hq: ∃v,mq P fn.results.toList (eP (H f) l') I'=some v/\qx I.length R v I':=(by grind)
        cases x with
        |normal=>exact hq
        |ret=>exact hq
        |_=>simp[Ru]at aa
       refine⟨key _ ⟨v,I',List.range I'.length,I',v,.refl _ _,ZR aa.2,.inl (by grind[AA,DM]),rfl,rfl⟩, ?_,λh0 hn=> ?_⟩
       .grind
       .subst h0
        refine key _ ⟨v,I',[],[],v,.refl _ _,⟨rfl,C0,sm,sm⟩,zC hn,rfl,rfl⟩
      grind
     grind
    grind
   grind
  grind
 grind
theorem ZS {s:St} (h:I.length<=s.length):yX (List.range I.length) I s=s:=by
 have hid:yA (cK (List.range I.length) I.length)=λo=>o:=funext (by grind[AB,DM])
 apply Bh
 intro i
 by_cases hi:i<s.length
 .have:=BT (dg:=List.range I.length) (Ic:=I) (I':=s) Bf (λq hq=>Cm.1 hq) (sU h) (A0 hi)
  grind[DM]
 grind[FH]
theorem Rx {f:FuncId} (hN:(P.funcs.all λfn=> !(fn.name== "runtime.NumGoroutine"))=true) (h:(P.funcs[f]?.bind (·.body)).isSome):xE P f=true:=by
 grind[xE]
theorem ZT {run:RunT} (hr:Hy P run) (hN:(P.funcs.all λfn=> !(fn.name== "runtime.NumGoroutine"))=true):rW P (uS P H run):=by
 intro fv az I v I' h c
 cases fv with
 |fn f bY=>
  obtain⟨h1,h2,_⟩:=Ka hr h
  refine VC.of h1 (Rx hN h2) (List.range I.length) Bf sm (λi j o hi ho=> ?_) ?_ ?_
  .grind[AB,DM]
  .have: ∀l:List V,bP (cP (cK (List.range I.length) I.length)) l l:=by
    intro l
    induction l with
    |nil=>trivial
    |cons a l ih=>exact⟨.inl (by grind[AA,DM]),ih⟩
   grind
  .rintro r s ⟨rfl,rfl⟩ hl
   rw[AA (λi=>DM),ZS (by grind)]
   simp
 |_=>cases h
theorem ZU {run:RunT} (hr:Hy P run) (hN:(P.funcs.all λfn=> !(fn.name== "runtime.NumGoroutine"))=true):DL P (uS P H run):=by
 intro fv az v I' h hn hf ha c s
 cases fv with
 |fn f bY=>
  obtain⟨_,h2,h3⟩:=Ka hr h
  have hcn:bY.all gM:=by
   simp only[gM,v7,oQ]at hf
   rw[Am]at hf⊢
   intro x hx
   have:=hf x hx
   cases x<;>first|exact this|cases this
  refine zL (P:=P) (c:=c) (KV:=λr s'=>r=v/\s'=s) (h3 rfl hn) (Rx hN h2) (yE (by grind)) hn sm
 |_=>cases h
section
variable {P:Program} {T:k5} {H:FuncId->aiB}
theorem Ry {ms:aiB} {b:Code} {x:Exit} {l':List V} {I':St} {N nt:Nat} (hk: ∀k,k<=N->Hy P (tj P T H k)) (ab:nt<=100000) {c:Ctx} {Q:QT} (hx:Rw x) (hQ:Q x (eP ms l') I')
  {l:List V} {I:St} (h:tj P T H (N+1) ms (.loop b) l I=some (x,l',I')) (hl:l.length=nt):VW P c nt (.loop b) Q (eP ms l) I:=by
 intro a w L J hs
 refine QI (λm a w=> ∃l I L J,m<=N+1/\l.length=nt/\tj P T H m ms (.loop b) l I=some (x,l',I')/\dS c nt (eP ms l) I a w L J) (N+1) (by grind) ?_
 rintro m a w ⟨l,I,L,J,hm,hl,h,hs⟩
 cases m with
 |zero=>cases h
 |succ k=>
  have h:pX P T H (tj P T H k) ms (.loop b) l I=some (x,l',I'):=h
  simp only[pX]at h
  split at h
  .rename_i l1 I1 hb
   obtain⟨e1,e2,e3⟩:=hk k om _ _ _ _ _ _ _ hb om
   have e4:=e3 c (λex e s=>ex= .normal/\e=eP ms l1/\s=I1) ⟨rfl,rfl,rfl⟩
   rw[hl]at e4
   refine wp_mono (e4 a w L J hs) λex a' w' q=> ?_
   cases ex with
   |normal=>
    obtain⟨e',s',L',J',aa,_,rfl,rfl⟩:=q
    exact⟨k,om,l1,s',L',J',om,om,h,aa⟩
   |exit id=>obtain⟨_,_,_,_,_,q,_⟩:=q;cases q
   |ret=>obtain⟨_,_,_,_,_,q,_⟩:=q;cases q
   |goto _=>simpa
   |panic _=>simpa
   |outgrown=>simpa
  .rename_i ad
   obtain⟨e1,e2,e3⟩:=hk k om _ _ _ _ _ _ _ h om
   have e4:=e3 c (λex e s=>ex=x/\e=eP ms l'/\s=I') ⟨rfl,rfl,rfl⟩
   rw[hl]at e4
   refine wp_mono (e4 a w L J hs) λex a' w' q=> ?_
   cases ex with
   |normal=>
    obtain⟨e',s',L',J',aa,q,_,_⟩:=q
    simp_all
   |exit id=>obtain⟨e',s',L',J',aa,rfl,rfl,rfl⟩:=q;exact⟨_,_,L',J',aa,hQ⟩
   |ret=>obtain⟨e',s',L',J',aa,rfl,rfl,rfl⟩:=q;exact⟨_,_,L',J',aa,hQ⟩
   |goto _=>simpa
   |panic _=>simpa
   |outgrown=>simpa
theorem Rz (hT:rW P T) (hT0: ∀fv az,T fv az []=none) (hN:(P.funcs.all λfn=> !(fn.name== "runtime.NumGoroutine"))=true) (hm:P.follows .mixedOrders): ∀n k,k<=n->Hy P (tj P T H k):=by
 intro n
 induction n with
 |zero=>
  intro k hk
  have:k=0:=om
  subst this
  intro ms code l I x l' I' h
  cases h
 |succ n ih=>
  intro k hk
  rcases Bv k (n+1)with Qh|hge
  .grind
  have:k=n+1:=om
  subst this
  have tq:=ih n (A7 n)
  have hc:rW P (AG T (uS P H (tj P T H n))):=ZN hT (ZT tq hN)
  have RA:DL P (AG T (uS P H (tj P T H n))):=(by grind[ZO,ZU])
  intro ms code l I x l' I' h0 hl
  have h:pX P T H (tj P T H n) ms code l I=some (x,l',I'):=h0
  cases code with
  |skip=>simp only[pX]at h;cases h;exact⟨rfl,rfl,λc Q hQ=>rO .skip Q _ _ hQ⟩
  |label s=>simp only[pX]at h;cases h;exact⟨rfl,rfl,λc Q hQ=>rO (.label s) Q _ _ hQ⟩
  |exit id=>simp only[pX]at h;cases h;exact⟨rfl,rfl,λc Q hQ=>rO (.exit id) Q _ _ hQ⟩
  |ret=>simp only[pX]at h;cases h;exact⟨rfl,rfl,λc Q hQ=>rO .ret Q _ _ hQ⟩
  |seq x1 y1=>
   simp only[pX]at h
   split at h
   .rename_i l1 I1 hb
    obtain⟨e1,e2,e3⟩:=tq _ _ _ _ _ _ _ hb hl
    obtain⟨f1,f2,f3⟩:=tq _ _ _ _ _ _ _ h om
    refine⟨om,f2,λc Q hQ=> ?_⟩
    refine JQ (K:=λe s=>e=eP ms l1/\s=I1) (e3 c _ (by trivial)) ?_
    rintro e' s' ⟨rfl,rfl⟩
    have:=f3 c Q hQ
    rwa [e1]at this
   .rename_i ZV
    obtain⟨e1,e2,e3⟩:=tq _ _ _ _ _ _ _ h hl
    refine⟨e1,e2,λc Q hQ=> ?_⟩
    refine JQ (K:=λ_ _=>False) (e3 c _ ?_) sm
    show Mn _ Q x _ _
    cases x with
    |normal=>grind
    |_=>exact hQ
  |cond y t f=>
   simp only[pX]at h
   split at h
   .rename_i hy
    obtain⟨e1,e2,e3⟩:=tq _ _ _ _ _ _ _ h hl
    exact⟨e1,e2,λc Q hQ=>JR hy (λ_=>e3 c Q hQ) sm⟩
   .rename_i hy
    obtain⟨e1,e2,e3⟩:=tq _ _ _ _ _ _ _ h hl
    exact⟨e1,e2,λc Q hQ=>JR hy sm (λ_=>e3 c Q hQ)⟩
   grind
  |block id b=>
   simp only[pX]at h
   split at h
   .rename_i sW l1 I1 hb
    obtain⟨e1,e2,e3⟩:=tq _ _ _ _ _ _ _ hb hl
    split at h
    .rename_i hid
     cases h
     refine⟨e1,rfl,λc Q hQ=>z7 (e3 c _ ?_)⟩
     show(if sW=id then Q .normal _ _ else Q (.exit sW) _ _)
     grind
    .rename_i hid
     cases h
     refine⟨e1,rfl,λc Q hQ=>z7 (e3 c _ ?_)⟩
     show(if sW=id then Q .normal _ _ else Q (.exit sW) _ _)
     grind
   .rename_i ZV
    obtain⟨e1,e2,e3⟩:=tq _ _ _ _ _ _ _ h hl
    refine⟨e1,e2,λc Q hQ=>z7 (e3 c _ ?_)⟩
    show BW id Q x _ _
    cases x with
    |exit sW=>grind
    |_=>exact hQ
  |region id ops draw=>
   cases draw with
   |true=>
    simp only[pX,aib]at h
    split at h
    .rename_i l1 I1 hx
     cases h
     refine⟨(Rt hc RA hm (c:=⟨default,λ_=>0,[],[],[]⟩) (id:=id) hx hl).1,rfl,λc Q hQ=> ?_⟩
     have:=(Rt hc RA hm (c:=c) (id:=id) hx hl).2 Q hQ
     omega
    grind
   |false=>
    simp only[pX,Cv,aij]at h
    split at h
    .rename_i l1 I1 hx
     cases h
     refine⟨(J8 hc (c:=⟨default,λ_=>0,[],[],[]⟩) _ _ _ _ _ hx hl).1,rfl,λc Q hQ=> ?_⟩
     have:=(J8 hc (c:=c) _ _ _ _ _ hx hl).2 (Q .normal) hQ
     grind[rO,qv]
    grind
  |loop b=>
   have hh:=h
   simp only[pX]at h
   split at h
   .rename_i l1 I1 hb
    obtain⟨e1,e2,e3⟩:=tq _ _ _ _ _ _ _ hb hl
    obtain⟨f1,f2,f3⟩:=tq _ _ _ _ _ _ _ h om
    exact⟨om,f2,λc Q hQ=>Ry ih hl f2 hQ h0 rfl⟩
   .obtain⟨e1,e2,e3⟩:=tq _ _ _ _ _ _ _ h hl
    exact⟨e1,e2,λc Q hQ=>Ry ih hl e2 hQ h0 rfl⟩
  |rangeFunc _ _ _ _=>trivial
  |scope _=>trivial
  |goto _=>trivial
  |refuse _=>trivial
theorem ZW (hN:(P.funcs.all λfn=> !(fn.name== "runtime.NumGoroutine"))=true) (hm:P.follows .mixedOrders) (H:FuncId->aiB) (n:Nat) {f:FuncId} {az:List V} {I I':St} {v:V} (h:uS P H (tj P eQ H n) (.fn f []) az I=some (v,I')):
  bN P f az I (λr s=>r=v/\s=I'):=by
 have:=(Ka (Rz Rv (λ_ _=>rfl) hN hm n n om) h).1
 grind
def RB (P:Program) (H:FuncId->aiB) (n:Nat) (f:FuncId) (az:List V):Option V:=
 match uS P H (tj P eQ H n) (.fn f []) az []with
 |some (v,_)=>if gM v then some v else none
 |none=>none
theorem wu (hN:(P.funcs.all λfn=> !(fn.name== "runtime.NumGoroutine"))=true) (hm:P.follows .mixedOrders) (H:FuncId->aiB) (n:Nat) {f:FuncId} {az:List V} {v:V} (h:RB P H n f az=some v):Pure P f az v:=by
 unfold RB at h
 split at h
 .rename_i v' s hx
  split at h
  .rename_i hn
   cases h
   have:=(Ka (Rz Rv (λ_ _=>rfl) hN hm n n om) hx).2.2 rfl hn
   grind
  grind
 grind
end
section
variable {P:Program} {c:Ctx} {nt:Nat} {n0:Kp} {K:KT} {e:Env} {I:St} {d:Option Tmp}
variable {x:Operand}{t:TypeId}{k:Operand}
@[go_sem] theorem wv:eL P c nt d (.mapEntry t x k) K fx fx e I=dU nt d (wD (gF P t) I (zG e x) (zG e k)) K fx e I:=(xB rfl rfl).trans rfl
@[go_sem] theorem tu {s v:Operand}:eL P c nt d (.entryStore t x s v) K fx fx e I=dU nt d (xT I (zG e x) (zG e s) (zG e v)) K fx e I:=(xB rfl rfl).trans rfl
@[go_sem] theorem FT:eL P c nt d (.entry x) K fx fx e I=dU nt d (qp I (zG e x)) K fx e I:=(xB rfl rfl).trans rfl
@[go_sem] theorem Kb:eL P c nt d (.makeInterface t x) K fx fx e I=dU nt d (yv (EP P t) t (zG e x)) K fx e I:=(xB rfl rfl).trans rfl
@[go_sem] theorem AH {ok:Bool}:eN P c nt n0 4 d (.lookup t x k ok) K fx fx e I=eL P c nt d (.lookup t x k ok) K fx fx e I:=JL (λ_ _ _ _ _ h=>by cases h) (λ_ _ h=>by cases h) (λ_ _=>rfl) (λ_ _ _ h=>by cases h)
@[go_sem] theorem tw {v:Operand}:eN P c nt n0 4 d (.mapUpdate t x k v) K fx fx e I=eL P c nt d (.mapUpdate t x k v) K fx fx e I:=JL (λ_ _ _ _ _ h=>by cases h) (λ_ _ h=>by cases h) (λ_ _=>rfl) (λ_ _ _ h=>by cases h)
@[go_sem] theorem rX {s v:Operand}:eN P c nt n0 4 d (.entryStore t x s v) K fx fx e I=eL P c nt d (.entryStore t x s v) K fx fx e I:=JL (λ_ _ _ _ _ h=>by cases h) (λ_ _ h=>by cases h) (λ_ _=>rfl) (λ_ _ _ h=>by cases h)
theorem Kc (h2:jK n0 3 I (wD (gF P t) I (zG e x) (zG e k))) (h:eL P c nt d (.mapEntry t x k) K fx fx e I):eN P c nt n0 3 d (.mapEntry t x k) K fx fx e I:=by
 rw[JM (λ_ _ _ _ _ h=>by cases h) (λ_ _=>rfl) h2 (λ_ _ _ h=>by cases h)];exact h
theorem RC {s v:Operand} (h2:jK n0 3 I (xT I (zG e x) (zG e s) (zG e v))) (h:eL P c nt d (.entryStore t x s v) K fx fx e I):eN P c nt n0 3 d (.entryStore t x s v) K fx fx e I:=by
 rw[JM (λ_ _ _ _ _ h=>by cases h) (λ_ _=>rfl) h2 (λ_ _ _ h=>by cases h)];exact h
theorem RD {m:Option (Kk×V)} {id:Nat} {kv:V} {ok:Bool} {g:Ob->R} (hg:g=λo=>xZ m [o] (.mp 0) kv ok) (s:St):xZ m s (.mp id) kv ok=match s[id]?.map g with
  |some r=>r
  |none=>xZ m [] (.mp 0) kv ok:=by
 subst hg
 unfold xZ
 cases m with
 |none=>cases s[id]? <;>rfl
 |some p=>
  obtain⟨kd,z⟩:=p
  by_cases hk:mT kd kv=true
  .cases h:s[id]? <;>simp[hk,h]
  .cases h:s[id]? <;>simp[hk]
theorem RE {ok:Bool} {id:Nat} {kv:V} {m:Option (Kk×V)} {g:Ob->R} (hx:zG e x= .mp id) (hk:zG e k=kv) (hm:gF P t=m) (hg:g=λo=>xZ m [o] (.mp 0) kv ok) (ad:n0.ob=some (id,g)) (hn:id<n0.n) {v:V} (hv:xZ m I (.mp id) kv ok= .ok v)
  (h:iJ nt d v K fx e I):eN P c nt n0 1 d (.lookup t x k ok) K fx fx e I:=by
 have aa: ∀s,cu P e s (.lookup t x k ok)=xZ m s (.mp id) kv ok:=λs=>by simp only[cu,hx,hk,hm]
 have ab: ∀s,n0.of s=n0.of I->cu P e s (.lookup t x k ok)=cu P e I (.lookup t x k ok):=λs hs=>by
  rw[aa s,aa I,RD hg s,RD hg I]
  have h2:=ai6 Prod.snd hs
  unfold Kp.of at h2
  simp only[ad,Ay,Ap,ai2 hn]at h2
  rw[h2]
 show fW P c nt n0 1 d (.lookup t x k ok) K e I
 have h1:=wa (P:=P) (e:=e) (I:=I) (.lookup t x k ok) (λ_ _ _ _ _ h=>by cases h)
 have h0:qH (cu P e I (.lookup t x k ok))=false:=by simp only[cu];unfold xZ;(repeat' split)<;>rfl
 have hh:db P d e (.lookup t x k ok):= .inr λ_ _=>rfl
 unfold fW
 refine⟨λ_=>hh,by rw[qF hh];exact h1,λq=>by simp at q,λ_=> .inr ⟨λ_ _ h=>(by cases h),ab⟩,λq=>absurd q (by rw[qF hh,h0];decide),by rw[qF hh];exact zu h0, ?_⟩
 rw[qF hh,aa I,hv]
 exact h
@[go_sem] theorem Kp.Ns {n id:Nat} {ex:aiB} {ob:Option (Nat×(Ob->R))}:(Kp.mk 0 n ex ob).has id=(decide (id<n)&& !ex.contains id):=by simp[Kp.has]
theorem yG {n0:Nat} {keep:aiB} {vs:List V} {e:Env} {I:St} (hn:n0<=I.length) (h:keep.map e=vs):At n0 keep vs I e I:=by
 have ra: ∀i,cK (List.range I.length) I.length i=i:=λi=>by
  by_cases h:i<I.length
  .exact qE h
  .rw[qu (by simp;omega)];simp;omega
 refine⟨List.range I.length,⟨sm,Bf,λi j o hi ho=> ?_,λi hi=>by rw[Dc om]⟩, ?_⟩
 .obtain⟨h1,h2⟩:=A4.1 hi
  simp at h1 h2
  subst h2
  rw[AB ra]
  exact ho
 .rw[h]
  have: ∀l:List V,bP (cP (cK (List.range I.length) I.length)) l l:=by
   intro l
   induction l with
   |nil=>trivial
   |cons a l ih=>exact⟨.inl (AA ra a).symm,ih⟩
  exact this _
theorem Nt {id:Nat} {ops:List Oper} {Q:QT} (q:List (Nat×Nat)) (k:Kp) (hn:k.n<=I.length) (hm:P.follows .mixedOrders) (hd:(uN ops q&&rQ ops)) (h:rS P c nt k ops q 0 ops (Q .normal) fx fx fx e I):gG P c nt (.region id ops.toArray true) Q fx fx e I:=by
 simp only[Ac]at hd
 obtain⟨tr,ht,hK⟩:=CW ops 0 (Q .normal) e I h
 exact VW.draw (n0:=k) hm hn hd.1 hd.2 ht hK
end
end Go.Vx
