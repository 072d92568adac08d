/-
  Rules of the walk for maps: an entry that is laid for `m[k] op= v`, looked at and laid in regions whose order is open.
  No condition: a library text; nothing of the program is named.
-/
import Derived.Test.YtplackkccmeioaaGreatKCAE
set_option maxHeartbeats 8000000
namespace Go.Vx
open Go
variable {P:Program}{I:St}{e:Env}{I':St}{l:List V}{nt:Nat}{d:Option Tmp}{K:KT}{op:Op}{ms:aj0}{c:Ctx}{H:FuncId->aj0}
def yR (b:Bool):R->Prop
 | .ee p _=>b=true->p
 | .dF p _ _=>b=true->p
 |_=>True
def lr (s:Nat) (rows:List (List V)):Bool:=rows.all λr=>r.length==s
theorem wi {s:Nat} {rows:List (List V)} (h:lr s rows):eI s rows:=λr hr=>by
 have:=Am.1 h r hr
 grind
def Ni:List V->Bool
 | [.int .u8 _]=>true
 |_=>false
theorem ZA {rows:List (List V)} (h:rows.all Ni):GS rows:=λr hr=>by
 have:=Am.1 h r hr
 unfold Ni at this
 grind
def J8 (op:BinOp) (y:Int):Bool:=
 match op with
 | .quo| .rem=>decide (y≠0)
 | .shl| .shr=>decide (0<=y)
 |_=>true
def Nj (op:BinOp) (x y:aiZ):Bool:=
 match op with
 | .add=>decide (x.length+y.length<=9223372036854775807)
 |_=>true
def DK (op:BinOp) (x y:V):Bool:=
 match x,y with
 | .int _ _,.int _ b=>J8 op b
 | .str a,.str b=>Nj op a b
 |_,_=>true
theorem ZB (op:BinOp) (k:IntKind) (x y:Int):yR (J8 op y) (BO op k x y):=by
 cases op<;>simp[BO,J8,yR]
theorem ZC (op:BinOp) (x y:aiZ):yR (Nj op x y) (BP op x y):=by
 cases op<;>simp[BP,Nj,yR]
theorem ZD (op:BinOp) (ek:Nat) (es:Option (List Pk)) (x y:V):yR (DK op x y) (mS op ek es x y):=by
 unfold mS
 split
 .grind[DK,ZB,J8,yR]
 .exact ZC ..
 all_goals (repeat' split)<;>trivial
theorem ZE (op:BinOp) (ek:Nat) (x:V) (b:Bool):yR b (vC op ek x):=by
 unfold vC GN
 (repeat' split)<;>trivial
def Nk (sl:aj5) (ar:Option (Nat×Nat×Bool)) (x i:V):Bool:=
 match x,i with
 | .sl _ rows,.int _ k=>(match sl with|some s=>decide (0<=k/\k<rows.length/\(rows.getD k.toNat []).length=s)|none=>true)
 | .ptr _ _,.int _ k=>(match ar with|some (n,_,_)=>decide (0<=k/\k<n)|none=>true)
 | .oJ _ _,.int _ k=>(match ar with|some (n,_,_)=>decide (0<=k/\k<n)|none=>true)
 | .cM _ _ _ _ m,.int _ k=>decide (0<=k/\k<m)
 | .j6 _ _ _ n,.int _ k=>decide (0<=k/\k<n)
 |_,_=>true
theorem ZF (sl:aj5) (ar:Option (Nat×Nat×Bool)) (x i:V):yR (Nk sl ar x i) (vF sl ar x i):=by
 unfold vF
 split
 all_goals first|trivial|simp only[Nk]
 all_goals split<;>first|trivial|simp only[yR,aiA,imp_self]
def wj (x i:V) (ar:Option (Nat×Nat×Bool)):Bool:=
 match x,i with
 | .str b,.int _ k=>decide (0<=k/\k<b.length)
 | .agg cs,.int _ k=>(match ar with|some (n,s,false)=>decide (0<=k/\k<n/\(k.toNat*s)<cs.length)|_=>true)
 |_,_=>true
theorem ZG (x i:V) (str:Bool) (ar:Option (Nat×Nat×Bool)):yR (wj x i ar) (vG x i str ar):=by
 unfold vG
 split
 .simp only[wj]
  split<;>first|trivial|simp only[yR,aiA,imp_self]
 .split
  all_goals simp[wj,yR]
 trivial
def Hv (es:aj5) (x:V) (lo hi:Option V):Bool:=
 match x with
 | .cM _ s n l0 m=>(match oo lo 0,oo hi m,es with|some l,some h,some z=>decide (0<=l/\l<=h/\(h<=m\/(l0:Int)+h<=n)/\z=s)|_,_,_=>true)
 | .str s=>(match oo lo 0,oo hi s.length with|some l,some h=>decide (0<=l/\l<=h/\h<=s.length)|_,_=>true)
 | .sl _ rows=>(match oo lo 0,oo hi rows.length,es with|some l,some h,some z=>decide (0<=l/\l<=h/\h<=rows.length)&&lr z rows|_,_,_=>true)
 |_=>true
theorem ZH (ar:Option (Nat×Nat×Bool)) (k:Nat) (es:aj5) (x:V) (lo hi:Option V):yR (Hv es x lo hi) (sI ar k es x lo hi):=by
 unfold sI
 split
 .split
  .rename_i h1 h2
   split
   all_goals simp_all[Hv,yR]
  trivial
 .split<;>trivial
 .split
  .rename_i h1 h2
   split
   all_goals simp_all[Hv,yR]
  trivial
 .split
  .rename_i h1 h2
   split
   all_goals simp_all[Hv,yR,wi]
  trivial
 trivial
def Nl (es:aj5) (x lo hi mx:V):Bool:=
 match x,lo,hi,mx,es with
 | .sl _ rows,.int _ l,.int _ h,.int _ m,some z=>decide (0<=l/\l<=h/\h<=rows.length/\m=h)&&lr z rows
 | .cM _ s _ _ n,.int _ l,.int _ h,.int _ m,some z=>decide (0<=l/\l<=h/\h<=m/\m<=n/\z=s)
 |_,_,_,_,_=>true
theorem ZI (es:aj5) (x lo hi mx:V):yR (Nl es x lo hi mx) (yj es x lo hi mx):=by
 unfold yj
 split
 all_goals simp_all[Nl,yR,wi]
def RA (x:V):Bool:=
 match x with
 | .sl _ rows=>rows.all Ni
 |_=>true
theorem ZJ (ks kd:Option Kd) (x:V):yR (RA x) (vI ks kd x):=by
 unfold vI
 split
 .split<;>trivial
 .split<;>trivial
 .split<;>trivial
 .split
  .exact ZA
  trivial
 trivial
def Hw (el:Option (Nat×Nat)) (l m:V):Bool:=
 match el,l,m with
 |some (_,lk),.int .i64 n,.int .i64 k=>decide (0<=n/\n<=k/\k.toNat*lk<=140737488355328)
 |_,_,_=>false
theorem ZK (el:Option (Nat×Nat)) (zs:Option (List V)) (I:St) (l m:V):yR (Hw el l m) (vJ el zs I l m):=by
 unfold vJ
 split
 all_goals simp[Hw,yR]
theorem ZL (el:Option (Nat×Nat)) (zs:Option (List V)) (I:St) (l m:V):yR (Hw el l m) (vK el zs I l m):=by
 unfold vK
 split
 all_goals simp[Hw,yR]
def Nn (sl:aj5) (I:St) (x:V):Bool:=
 match x with
 | .cM id s n lo m=>(match I[id]? with|some (.cj rows s')=>decide (sl=some s/\s'=s/\rows.length=n/\lo+m<=n)|_=>true)
 |_=>true
theorem ZM (sl:aj5) (zs:Option (List V)) (I:St) (x:V):yR (Nn sl I x) (vL sl zs I x):=by
 unfold vL
 split
 .split
  all_goals simp_all[Nn,yR]
 trivial
def qI (I:St):V->Bool
 | .cM id s n lo m=>(match I[id]? with|some (.cj rows s')=>decide (s'=s/\rows.length=n/\lo+m<=n)&&xI ((rows.drop lo).take m)|_=>false)
 |_=>true
theorem Hx {y:V} (h:qI I y):sD I y:=by
 unfold sD
 split
 .simp only[qI]at h
  split at h
  .rename_i h1
   rw[h1]
   simp only[Ab,aiA]at h
   exact⟨h.1.1,h.1.2.1,h.1.2.2,h.2⟩
  grind
 simp
def FV (el:Option (Nat×Nat)) (k2:Nat) (I:St) (x y:V):Bool:=
 match el,BR k2 I y with
 |some (s,lk),some r2=>
  (match x with
  | .sl .full r1=>qI I y&&decide ((r1.length+r2.length)*lk<=140737488355328)&&lr s r1&&lr s r2
  | .sl (.app id) r1=>(match I[id]? with
   |some (.app n s')=>qI I y&&decide (r1.length=n/\s'=s/\(r1.length+r2.length)*lk<=140737488355328)&&lr s r2
   |_=>true)
  | .cM id s1 n lo m=>(match I[id]? with
   |some (.cj rows s')=>qI I y&&decide (s1=s/\s'=s/\rows.length=n)&&lr s r2&&(decide (lo+m+r2.length<=n)||decide (lo=0/\m=n/\(n+r2.length)*lk<=140737488355328))
   |_=>true)
  |_=>true)
 |_,_=>true
theorem ZN (el:Option (Nat×Nat)) (k2:Nat) (I:St) (x y:V):yR (FV el k2 I x y) (sE el k2 I x y):=by
 unfold sE
 split
 .rename_i h2
  split
  .simp_all[FV,yR,Hx,wi]
  .split
   all_goals simp_all[FV,yR,Hx,wi]
  .split
   .rename_i h3
    split
    .simp_all[FV,yR,Hx,wi]
    simp_all[FV,yR,Hx,wi];omega
   trivial
  trivial
 trivial
def Np (I:St):V->Bool
 | .cM id s n lo m=>(match I[id]? with|some (.cj rows s')=>decide (s'=s/\rows.length=n/\lo+m<=n)|_=>false)
 |_=>true
theorem RB {y:V} (h:Np I y):BS I y:=by
 unfold BS
 split
 .simp only[Np]at h
  grind
 simp
def Hy (el:Option (Nat×Nat)) (k2:Nat) (I:St) (x y:V):Bool:=
 match x with
 | .cM id s1 n lo m=>(match el,GP k2 I y with
  |some (s,lk),some r2=>(match I[id]? with
   |some (.cj rows s')=>Np I y&&decide (s1=s/\s'=s/\rows.length=n)&&lr s r2&&(decide (lo+m+r2.length<=n)||decide (lo=0/\m=n/\(n+r2.length)*lk<=140737488355328))
   |_=>true)
  |_,_=>true)
 |x=>match el,BR k2 I y with
 |some (s,lk),some r2=>
  (match x with
  | .sl .full r1=>qI I y&&decide ((r1.length+r2.length)*lk<=140737488355328)&&lr s r1&&lr s r2&&(!r2.isEmpty||r1.isEmpty)
  |_=>true)
 |_,_=>true
theorem ZO (el:Option (Nat×Nat)) (k2:Nat) (I:St) (x y:V):yR (Hy el k2 I x y) (sG el k2 I x y):=by
 unfold sG
 split
 .split
  .rename_i h2
   split
   .rename_i h3
    split
    .simp_all[Hy,yR,RB,wi]
    simp_all[Hy,yR,RB,wi];omega
   trivial
  trivial
 .split
  .rename_i h2
   split
   .simp only[Hy,h2,yR,Ab,aiA]
    grind[Hx,wi]
   trivial
  trivial
def Hz (L:Bool) (es:aj5) (len:Nat) (parts:List (Nat×V)):Bool:=
 match es with
 |some s=>(parts.all λp=>(L||oj p.2)&&(xO p.2).length==s)&&decide (len*s<=16777216/\0<s)
 |none=>true
theorem ZP (es:aj5) (len:Nat) (parts:List (Nat×V)):yR (Hz false es len parts) (vH es len parts):=by
 unfold vH
 split
 .split
  all_goals simp[Hz,yR]
 trivial
theorem ZQ (es:aj5) (len:Nat) (I:St) (parts:List (Nat×V)):yR (Hz true es len parts) (vM es len I parts):=by
 unfold vM
 split
 .split
  all_goals simp[Hz,yR]
 trivial
def DL (P:Program) (L:Bool) (e:Env) (I:St):Op->Bool
 | .buildSlice t n ps=>Hz L ((eF P t).map (·.1)) n (ps.toList.map λp=>(p.1,zG e p.2))
 | .binOp op _ x y _=>DK op (zG e x) (zG e y)
 | .convert _ _ x=>RA (zG e x)
 | .slice t x lo hi none=>if L then false else Hv ((eF P t).map (·.1)) (zG e x) (lo.map (zG e)) (hi.map (zG e))
 | .slice t x (some lo) (some hi) (some mx)=>Nl ((eF P t).map (·.1)) (zG e x) (zG e lo) (zG e hi) (zG e mx)
 | .indexAddr t x i=>Nk (eT P t) (iT P t) (zG e x) (zG e i)
 | .index t x i=>wj (zG e x) (zG e i) (iT P t)
 | .makeSlice t l m=>Hw (eF P t) (zG e l) (zG e m)
 | .call ⟨.builtin .append,⟨[x,y]⟩,⟨[t,t']⟩⟩=>if L then Hy (eF P t) (dL P t') I (zG e x) (zG e y)else FV (eF P t) (dL P t') I (zG e x) (zG e y)
 | .call ⟨.builtin .clear,⟨[x]⟩,⟨[t]⟩⟩=>Nn ((eF P t).map (·.1)) I (zG e x)
 |_=>true
def ZR:R->Bool
 | .ee _ _| .dF _ _ _=>false
 |_=>true
theorem yU {b:Bool} {r:R} (h:ZR r):yR b r:=by
 cases r<;>first|trivial|cases h
theorem Nq (op:Op):yR (DL P false e I op) (cu P e I op):=by
 unfold cu
 split
 .trivial
 .trivial
 .refine yU ?_;unfold x9;(repeat' split)<;>rfl
 .refine yU ?_;unfold rJ;(repeat' split)<;>rfl
 .refine yU ?_;unfold vE;(repeat' split)<;>rfl
 .refine yU ?_;unfold yh;(repeat' split)<;>rfl
 .exact ZP ..
 .refine yU ?_;unfold ng;(repeat' split)<;>first|rfl|(unfold rI;(repeat' split)<;>rfl)
 .refine yU ?_;unfold vD;(repeat' split)<;>rfl
 .refine yU ?_;unfold ya;(repeat' split)<;>rfl
 .split
  .grind[ZE]
  .split
   .refine yU ?_;unfold yw;(repeat' split)<;>rfl
   .exact ZD ..
 .refine yU ?_;unfold nf;(repeat' split)<;>rfl
 .exact ZJ ..
 .exact ZH ..
 .exact ZI ..
 .refine yU ?_;unfold ye;(repeat' split)<;>rfl
 .refine yU ?_;unfold yl;(repeat' split)<;>rfl
 .exact ZF ..
 .exact ZG ..
 .refine yU ?_;unfold yc;(repeat' split)<;>rfl
 .refine yU ?_;unfold ym;(repeat' split)<;>rfl
 .exact ZK ..
 .refine yU ?_;unfold yg;(repeat' split)<;>rfl
 .exact ZN ..
 .exact ZM ..
 .refine yU ?_;unfold qh;(repeat' split)<;>rfl
 .refine yU ?_;unfold qh;(repeat' split)<;>rfl
 .refine yU ?_;unfold yv;(repeat' split)<;>rfl
 .refine yU ?_;unfold yt;(repeat' split)<;>rfl
 .refine yU ?_;unfold xZ;(repeat' split)<;>rfl
 .refine yU ?_;unfold xW;(repeat' split)<;>rfl
 .refine yU ?_;unfold xW;(repeat' split)<;>rfl
 .refine yU ?_;unfold wD;(repeat' split)<;>rfl
 .refine yU ?_;unfold xT;(repeat' split)<;>rfl
 .refine yU ?_;unfold yx;(repeat' split)<;>rfl
 .refine yU ?_;unfold qo;(repeat' split)<;>rfl
 .refine yU ?_;unfold yz;(repeat' split)<;>rfl
 .refine yU ?_;unfold nj;(repeat' split)<;>rfl
 .trivial
theorem ZS (op:Op):yR (DL P false e I op&&DL P true e I op) (iu P e I op):=by
 have lg: ∀{b c:Bool} {r:R},yR b r->yR (c&&b) r:=by
  intro b c r h
  cases r with
  |ee p v=>exact λq=>h (by grind)
  |dF p v s=>exact λq=>h (by grind)
  |_=>trivial
 have aa: ∀{b c:Bool} {r:R},yR b r->yR (b&&c) r:=by
  simp_all
 unfold iu
 split
 .exact lg (ZQ ..)
 .exact lg (ZL ..)
 .refine yU ?_;unfold yn;(repeat' split)<;>rfl
 .refine lg (b:=false) ?_;unfold yi;(repeat' split)<;>first|trivial|exact λq=>by cases q
 .exact lg (ZO ..)
 .refine yU ?_;unfold nj;(repeat' split)<;>rfl
 grind[Nq]
def qJ (b:Bool) (I:St):R->Option (V×St)
 | .ok v=>some (v,I)
 | .ee _ v=>if b then some (v,I)else none
 | .st v I'=>some (v,I')
 | .dF _ v I'=>if b then some (v,I')else none
 |_=>none
def Nr (P:Program) (d:Option Tmp) (e:Env) (I:St) (op:Op):Option (V×St):=
 if lR e d then qJ (DL P false e I op&&DL P true e I op) I (iu P e I op)else qJ (DL P false e I op) I (cu P e I op)
theorem Ns {b:Bool} {r:R} {v:V} (hn:yR b r) (h:qJ b I r=some (v,I')) (hk:fc nt d v K e I'):mh nt d r K e I:=by
 cases r with
 |fail=>cases h
 |ok v'=>cases h;exact hk
 |ee p v'=>
  simp only[qJ]at h
  split at h
  .rename_i hb
   cases h;exact⟨hn hb,hk⟩
  grind
 |st v' s=>cases h;exact hk
 |dF p v' s=>
  simp only[qJ]at h
  split at h
  .rename_i hb
   cases h;exact⟨hn hb,hk⟩
  grind
 |all f=>cases h
 |any l=>cases h
theorem ZT {v:V} (h:Nr P d e I op=some (v,I')) (hk:fc nt d v K e I'):mh nt d (xX P d e I op) K e I:=by
 unfold Nr at h
 unfold xX
 split at h
 .rename_i hh
  rw[aiv hh]
  grind[Ns,ZS]
 .rename_i hh
  rw[aiu hh]
  grind[Ns,Nq]
def eP (ms:aj0) (l:List V):Env:=λt=>if t<100000 then l.getD t .u else if ms.contains (t - 100000)then .cy []else .u
theorem ZU {t:Nat} {v:V} (h:t<l.length) (hl:l.length<=100000):fo (eP ms l) t v=eP ms (l.set t v):=by
 funext k
 simp only[fo,eP]
 grind
def qK (d:Option Tmp) (v:V) (l:List V):Option (List V):=
 match d with
 |some t=>if t<l.length then some (l.set t v)else none
 |none=>some l
theorem J9 {v:V} {l':List V} (h:qK d v l=some l') (hl:l.length<=100000):l'.length=l.length/\ ∀(K:KT) (I:St),K (eP ms l') I->fc l.length d v K (eP ms l) I:=by
 unfold qK at h
 unfold fc
 split at h
 .grind[ZU]
 grind
def Ka (g:Option (Nat×Bool)) (ops:List Oper) (e:Env):Option Bool:=
 match g with
 |none=>some true
 |some (j,want)=>(match j8 ops j with|some t=>(match e t with| .bool b=>some (b==want)| .cy []=>some false|_=>none)|none=>none)
theorem Kb {g:Option (Nat×Bool)} {ops:List Oper} {A B:Prop} {r:Bool} (h:Ka g ops e=some r) (ha:r=true->A) (hb:r=false->B):uA g ops e A B:=by
 unfold Ka at h
 unfold uA
 split at h
 .grind
 .split at h
  .rename_i t ht
   simp only[ht]
   unfold kI
   grind
  grind
abbrev k6:=V->List V->St->Option (V×St)
def rT (P:Program) (call:k6):Prop:= ∀fv az I v I',call fv az I=some (v,I')-> ∀c,VC P c fv az I (λr s=>r=v/\s=I')
def DM (P:Program) (call:k6) (d:Option Tmp) (e:Env) (I:St) (op:Op):Option (V×St):=
 match op with
 | .call ⟨.value f,args,_⟩=>call (zG e f) (args.toList.map (zG e)) I
 |op=>Nr P d e I op
theorem ZV {call:k6} (hc:rT P call) {v:V} (h:DM P call d e I op=some (v,I')) (hk:fc nt d v K e I'):jE P c nt d op K e I:=by
 unfold DM at h
 unfold jE
 split at h
 .refine(hc _ _ _ _ _ h c).mono ?_
  grind
 .rename_i aa
  split
  .grind
  grind[ZT]
def HA (P:Program) (call:k6) (ms:aj0) (ops:List Oper):List Oper->List V->St->Option (List V×St)
 | [],l,I=>some (l,I)
 |o::rest,l,I=>
  match Ka o.guard ops (eP ms l)with
  |none=>none
  |some true=>(match DM P call o.dst (eP ms l) I o.op with
   |some (v,I')=>(match qK o.dst v l with|some l'=>HA P call ms ops rest l' I'|none=>none)
   |none=>none)
  |some false=>(match qK o.dst (.cy []) l with|some l'=>HA P call ms ops rest l' I|none=>none)
theorem Kc {P:Program} {call:k6} (hc:rT P call) {ms:aj0} {ops:List Oper} {c:Ctx}: ∀(rest:List Oper) (l:List V) (I:St) (l':List V) (I':St),HA P call ms ops rest l I=some (l',I')->l.length<=100000->
  l'.length=l.length/\ ∀K:KT,K (eP ms l') I'->j9 P c l.length ops rest K (eP ms l) I
 | [],l,I,l',I',h,hl=>by cases h;exact⟨rfl,λK hk=>hk⟩
 |o::rest,l,I,l',I',h,hl=>by
  unfold HA at h
  split at h
  .cases h
  .rename_i hg
   split at h
   .rename_i v s1 ho
    split at h
    .rename_i l1 hp
     obtain⟨e1,e2⟩:=J9 (ms:=ms) hp hl
     obtain⟨e3,e4⟩:=Kc hc (c:=c) rest l1 s1 l' I' h om
     refine⟨om,λK hk=> ?_⟩
     refine Kb hg (λ_=> ?_) sm
     grind[ZV]
    grind
   grind
  .rename_i hg
   split at h
   .rename_i l1 hp
    obtain⟨e1,e2⟩:=J9 (ms:=ms) hp hl
    obtain⟨e3,e4⟩:=Kc hc (c:=c) rest l1 I l' I' h om
    refine⟨om,λK hk=> ?_⟩
    refine Kb hg sm (λ_=> ?_)
    grind
   grind
def HB:Op->Bool
 | .buildSlice .. | .makeSlice .. | .convert .. | .call _| .next .. | .slice .. =>false
 |_=>true
theorem ZW (h:HB op): ∀e I,iu P e I op=cu P e I op:=by
 intro e I
 cases op<;>first|rfl|cases h
def RC (n0:Kp) (e:Env):Op->Bool
 | .load _ x=>CX n0 (zG e x)
 |_=>false
def ZX:Op->Bool
 | .alloc _| .box .. =>true
 |_=>false
def RD (P:Program) (n0:Kp) (k:Nat) (d:Option Tmp) (e:Env) (I:St) (op:Op):Bool:=
 (!lR e d||HB op)&&(k !=0||lS op==0)&&(k !=1||RC n0 e op)&&(!qG (cu P e I op)||decide (3<=k))&&(k==4||(k==3&&ZX op)|| !qG (cu P e I op))
def DN (P:Program) (call:k6) (n0:Kp) (k:Nat) (d:Option Tmp) (e:Env) (I:St) (op:Op):Option (V×St):=
 match op with
 | .call ⟨.value f,args,_⟩=>if k=0 then(match call (zG e f) (args.toList.map (zG e)) []with|some (v,_)=>if gK v&&gK (zG e f)&&(args.toList.map (zG e)).all gK then some (v,I)else none|none=>none)
   else if k=4 then(match call (zG e f) (args.toList.map (zG e)) I with|some (v,I')=>if I.length<=I'.length then some (v,I')else none|none=>none)
   else none
 |op=>if RD P n0 k d e I op then qJ (DL P false e I op) I (cu P e I op)else none
def DO (P:Program) (call:k6):Prop:= ∀fv az v I',call fv az []=some (v,I')->gK v=true->gK fv=true->az.all gK=true-> ∀c s,VC P c fv az s (λr s'=>r=v/\s'=s)
theorem ZY {call:k6} (hc:rT P call) (hp:DO P call) {n0:Kp} {k:Nat} {v:V} (h:DN P call n0 k d e I op=some (v,I')) (hk:fc nt d v K e I'):fU P c nt n0 k d op K e I:=by
 unfold DN at h
 unfold fU
 split at h
 .split at h
  .rename_i ab
   split at h
   .rename_i v' s' aa
    split at h
    .rename_i hn
     cases h
     simp only[Ab]at hn
     subst ab
     refine⟨v,I, ?_,λ_=>rfl,om,om,hk⟩
     rw[aiv rfl]
     exact λs=>hp _ _ _ _ aa hn.1.1 hn.1.2 hn.2 c s
    grind
   grind
  .split at h
   .rename_i ab ad
    split at h
    .rename_i v' s' aa
     split at h
     .rename_i hle
      cases h
      subst ad
      refine⟨v,I', ?_,om,om,hle,hk⟩
      rw[aiu dC,aiu dC]
      exact hc _ _ _ _ _ aa c
     grind
    grind
   grind
 .rename_i ae
  split
  .grind
  .split at h
   .rename_i ht
    simp only[RD,Ab,Ce,Dq,bne_iff_ne,aiB,aiA]at ht
    obtain⟨⟨⟨⟨t1,t2⟩,t3⟩,t4⟩,t5⟩:=ht
    have hh:cQ P d e op:=by
     rcases t1 with t1|t1
     .exact .inl t1
     .exact .inr (ZW t1)
    rw[qE hh]
    refine⟨λ_=>hh, ?_,om,λq=> ?_,(by grind), ?_,Ns (Nq op) h hk⟩
    .cases hr:cu P e I op with
     |all f=>rw[hr]at h;cases h
     |any l=>rw[hr]at h;cases h
     |_=>rfl
    .have:=t3.resolve_left (λw=>w q)
     unfold RC at this
     grind
    .rcases t5 with (t5|t5)|t5
     .grind[MK]
     .obtain⟨t5,t6⟩:=t5
      subst t5
      cases op with
      |alloc t=>simp only[cu];unfold rJ;split<;>first|trivial|exact⟨sm,λ_=> .inl ⟨_,rfl⟩⟩
      |box t x=>simp only[cu];unfold vE;split<;>first|trivial|exact⟨sm,λ_=> .inl ⟨_,rfl⟩⟩
      |_=>cases t6
     grind[z7]
   grind
def FW (P:Program) (call:k6) (n0:Kp) (ms:aj0) (ops:List Oper) (q:List (Nat×Nat)):Nat->List Oper->List V->St->Option (List V×St)
 |_,[],l,I=>some (l,I)
 |i,o::rest,l,I=>
  match Ka o.guard ops (eP ms l)with
  |none=>none
  |some true=>(match DN P call n0 (zZ q i o) o.dst (eP ms l) I o.op with
   |some (v,I')=>(match qK o.dst v l with|some l'=>FW P call n0 ms ops q (i+1) rest l' I'|none=>none)
   |none=>none)
  |some false=>(match qK o.dst (.cy []) l with|some l'=>FW P call n0 ms ops q (i+1) rest l' I|none=>none)
theorem Nt {P:Program} {call:k6} (hc:rT P call) (aa:DO P call) {n0:Kp} {ms:aj0} {ops:List Oper} {q:List (Nat×Nat)} {c:Ctx}: ∀(rest:List Oper) (i:Nat) (l:List V) (I:St) (l':List V) (I':St),FW P call n0 ms ops q i rest l I=some (l',I')->l.length<=100000->
  l'.length=l.length/\ ∀K:KT,K (eP ms l') I'->rP P c l.length n0 ops q i rest K (eP ms l) I
 | [],i,l,I,l',I',h,hl=>by cases h;exact⟨rfl,λK hk=>hk⟩
 |o::rest,i,l,I,l',I',h,hl=>by
  unfold FW at h
  split at h
  .cases h
  .rename_i hg
   split at h
   .rename_i v s1 ho
    split at h
    .rename_i l1 hp
     obtain⟨e1,e2⟩:=J9 (ms:=ms) hp hl
     obtain⟨e3,e4⟩:=Nt hc aa (c:=c) rest (i+1) l1 s1 l' I' h om
     refine⟨om,λK hk=> ?_⟩
     refine Kb hg (λ_=> ?_) sm
     grind[ZY]
    grind
   grind
  .rename_i hg
   split at h
   .rename_i l1 hp
    obtain⟨e1,e2⟩:=J9 (ms:=ms) hp hl
    obtain⟨e3,e4⟩:=Nt hc aa (c:=c) rest (i+1) l1 I l' I' h om
    refine⟨om,λK hk=> ?_⟩
    refine Kb hg sm (λ_=> ?_)
    grind
   grind
def Nu:Nat->List Oper->List (Nat×Nat)
 |_,[]=> []
 |i,o::os=>(match o.op with| .call ⟨.value _,_,_⟩=> [(i,0)]|_=> [])++Nu (i+1) os
def Nv:Nat->List Oper->List (Nat×Nat)
 |_,[]=> []
 |i,o::os=>(match o.op with| .store .. => [(i,4)]| .call ⟨.builtin .append,_,_⟩=> [(i,4)]|_=> [])++Nv (i+1) os
def RE:Nat->List Oper->List (Nat×Nat)
 |_,[]=> []
 |i,o::os=>(match o.op with| .store .. => [(i,4)]| .call ⟨.builtin .append,_,_⟩=> [(i,4)]| .call ⟨.value _,_,_⟩=> [(i,4)]|_=> [])++RE (i+1) os
def RF:Nat->List Oper->List (Nat×Nat)
 |_,[]=> []
 |i,o::os=>(match o.op with| .store .. => [(i,4)]| .load .. => [(i,4)]| .alloc _=> [(i,4)]| .call ⟨.builtin .append,_,_⟩=> [(i,4)]| .call ⟨.value _,_,_⟩=> [(i,4)]|_=> [])++RF (i+1) os
def RG (ops:List Oper):List (List (Nat×Nat)):= [[],Nu 0 ops,Nv 0 ops,Nu 0 ops++Nv 0 ops,RE 0 ops,RF 0 ops]
def Ke (P:Program) (call:k6) (ms:aj0) (ops:List Oper) (l:List V) (I:St):List (List (Nat×Nat))->Option (List V×St)
 | []=>none
 |q::qs=>if uG ops q then(match FW P call (Kp.pre I.length) ms ops q 0 ops l I with|some r=>some r|none=>Ke P call ms ops l I qs)else Ke P call ms ops l I qs
def Nw (P:Program) (call:k6) (ms:aj0) (ops:List Oper) (l:List V) (I:St):Option (List V×St):=
 if rO ops then Ke P call ms ops l I (RG ops)else none
theorem RH {call:k6} (hc:rT P call) (aa:DO P call) (hm:P.follows .mixedOrders) {ops:List Oper} {id:Nat} {l':List V} (h:Nw P call ms ops l I=some (l',I')) (hl:l.length<=100000):
  l'.length=l.length/\ ∀Q:QT,Q .normal (eP ms l') I'->VW P c l.length (.region id ops.toArray true) Q (eP ms l) I:=by
 unfold Nw at h
 split at h
 .rename_i he
  have go: ∀q,uG ops q=true->FW P call (Kp.pre I.length) ms ops q 0 ops l I=some (l',I')->l'.length=l.length/\ ∀Q:QT,Q .normal (eP ms l') I'->VW P c l.length (.region id ops.toArray true) Q (eP ms l) I:=by
   intro q hd hx
   obtain⟨e1,e2⟩:=Nt hc aa (c:=c) ops 0 l I l' I' hx hl
   exact⟨e1,λQ hq=>yE q I.length rfl hm (by grind) (e2 (Q .normal) hq)⟩
  generalize RG ops=qs at h
  induction qs<;>grind[Ke]
 grind
abbrev RunT:=aj0->Code->List V->St->Option (Exit×List V×St)
def RI:Exit->Bool
 | .normal| .ret=>true
 |_=>false
def uN (P:Program) (H:FuncId->aj0) (run:RunT):k6:=λfv az I=>
 match fv with
 | .fn f bY=>(match P.funcs[f]? with
  |some fn=>(match fn.body with
   |some code=>if decide ((az++bY).length<=fn.ntmps)&&decide (fn.ntmps<=100000)then
     (match run (H f) code ((az++bY)++List.replicate (fn.ntmps - (az++bY).length) .u) I with
     |some (x,l',I')=>if RI x&&decide (I.length<=I'.length)then(match ml P fn.results.toList (eP (H f) l') I' with|some v=>some (v,I')|none=>none)else none
     |none=>none)else none
   |none=>none)
  |none=>none)
 |_=>none
def AK (T call:k6):k6:=λfv az I=>match T fv az I with|some r=>some r|none=>call fv az I
theorem ZZ {T call:k6} (hT:rT P T) (hc:rT P call):rT P (AK T call):=by
 intro fv az I v I' h c
 unfold AK at h
 split at h
 .rename_i r hr
  cases h
  exact hT _ _ _ _ _ hr c
 .exact hc _ _ _ _ _ h c
theorem Z0 {T call:k6} (hT: ∀fv az,T fv az []=none) (hc:DO P call):DO P (AK T call):=by
 intro fv az v I' h
 unfold AK at h
 rw[hT]at h
 exact hc fv az v I' h
def eQ:k6:=λ_ _ _=>none
theorem RJ:rT P eQ:=λ_ _ _ _ _ h=>by cases h
def pV (P:Program) (T:k6) (H:FuncId->aj0) (run:RunT):RunT:=λms code l I=>
 match code with
 | .skip=>some (.normal,l,I)
 | .label _=>some (.normal,l,I)
 | .exit id=>some (.exit id,l,I)
 | .ret=>some (.ret,l,I)
 | .seq x y=>(match run ms x l I with
  |some (.normal,l',I')=>run ms y l' I'
  |r=>r)
 | .cond x t f=>(match zG (eP ms l) x with| .bool true=>run ms t l I| .bool false=>run ms f l I|_=>none)
 | .block id b=>(match run ms b l I with
  |some (.exit sS,l',I')=>if sS=id then some (.normal,l',I')else some (.exit sS,l',I')
  |r=>r)
 | .region _ ops draw=>if draw then(match Nw P (AK T (uN P H run)) ms ops.toList l I with|some (l',I')=>some (.normal,l',I')|none=>none)
   else(match HA P (AK T (uN P H run)) ms ops.toList ops.toList l I with|some (l',I')=>some (.normal,l',I')|none=>none)
 | .loop b=>(match run ms b l I with
  |some (.normal,l',I')=>run ms (.loop b) l' I'
  |r=>r)
 |_=>none
def td (P:Program) (T:k6) (H:FuncId->aj0):Nat->RunT
 |0=>λ_ _ _ _=>none
 |n+1=>pV P T H (td P T H n)
def RL:Exit->Bool
 | .normal| .ret| .exit _=>true
 |_=>false
def HC (P:Program) (run:RunT):Prop:= ∀ms code l I x l' I',run ms code l I=some (x,l',I')->l.length<=100000->
 l'.length=l.length/\RL x=true/\ ∀(c:Ctx) (Q:QT),Q x (eP ms l') I'->VW P c l.length code Q (eP ms l) I
theorem Z1 (hl:l.length<=100000) (n:Nat):eP [] (l++List.replicate n .u)=ka 0 l:=by
 funext t
 have e1:=Mt l 0 t
 rw[Ad]at e1
 rw[e1]
 unfold eP
 grind
theorem Z2 {t:Nat}:fo (eP ms l) (100000+t) (.cy [])=eP (t::ms) l:=by
 funext k
 unfold fo eP
 by_cases hk:k=100000+t
 .simp_all;omega
 .rw[aiu hk]
  by_cases h0:k<100000
  .rw[aiv h0,aiv h0]
  .have h2:(k - 100000==t)=false:=by simp;omega
   rw[aiu h0,aiu h0,Dh,h2,C5]
theorem VW.marks {code:Code} {Q:QT} (hn:nt<=100000) (ms:aj0) (h:VW P c nt code Q (eP ms l) I):VW P c nt code Q (eP [] l) I:=by
 induction ms with
 |nil=>exact h
 |cons t ms ih=>
  refine ih ?_
  have h2:=uH (P:=P) (c:=c) (nt:=nt) (Q:=Q) (e:=eP ms l) (I:=I) t (y:=code) hn
  rw[Z2]at h2
  exact h2 h
theorem DP {k i:Nat}:cK (List.range k) k i=i:=by
 grind[qC,qp]
theorem Z3 {n0:Nat} (h:n0<=I.length):gB n0 (List.range I.length) I I:=by
 refine⟨sm,Be,λi j o hi ho=> ?_,(by grind)⟩
 grind[AG,DP]
theorem Kf {run:RunT} (hr:HC P run) {f:FuncId} {bY az:List V} {v:V} (h:uN P H run (.fn f bY) az I=some (v,I')):
  bN P f (az++bY) I (λr s=>r=v/\s=I')/\(P.funcs[f]?.bind (·.body)).isSome=true/\(I= []->gK v=true->bN P f (az++bY) I (λr s=>r=v/\s= [])):=by
 unfold uN at h
 simp only at h
 split at h
 .rename_i fn hf
  split at h
  .rename_i code hb
   split at h
   .rename_i hlen
    simp only[Ab,aiA]at hlen
    split at h
    .rename_i x l' s1 hx
     split at h
     .rename_i aa
      simp only[Ab,aiA]at aa
      split at h
      .rename_i v' hv
       cases h
       have ab:((az++bY)++List.replicate (fn.ntmps - (az++bY).length) V.u).length=fn.ntmps:=by
        grind
       obtain⟨e1,e2,e3⟩:=hr _ _ _ _ _ _ _ hx om
       have key: ∀R:V->St->Prop,qv I.length R v I'->bN P f (az++bY) I R:=by
        intro R hR
        refine bN.oP (rs:=fn.results.toList) I.length hf rfl sm hb rfl hlen.1 λc _ _=> ?_
        rw[<-Z1 om (fn.ntmps - (az++bY).length)]
        refine VW.marks hlen.2 (H f) ?_
        have:=e3 c (mm P fn.results.toList I.length R)
        rw[ab]at this
        refine this ?_
        have hq: ∃v,ml P fn.results.toList (eP (H f) l') I'=some v/\qv I.length R v I':=(by grind)
        cases x with
        |normal=>exact hq
        |ret=>exact hq
        |_=>simp[RI]at aa
       refine⟨key _ ⟨v,I',List.range I'.length,I',v,.refl _ _,Z3 aa.2,.inl (by grind[AF,DP]),rfl,rfl⟩, ?_,λh0 hn=> ?_⟩
       .grind
       .subst h0
        refine key _ ⟨v,I',[],[],v,.refl _ _,⟨rfl,C0,sm,sm⟩,zC hn,rfl,rfl⟩
      grind
     grind
    grind
   grind
  grind
 grind
theorem Z4 {s:St} (h:I.length<=s.length):yX (List.range I.length) I s=s:=by
 have hid:yA (cK (List.range I.length) I.length)=λo=>o:=funext (by grind[AG,DP])
 apply Bi
 intro i
 by_cases hi:i<s.length
 .have:=BX (dg:=List.range I.length) (Ic:=I) (I':=s) Be (λq hq=>Cn.1 hq) (sU h) (A0 hi)
  grind[DP]
 grind[FL]
theorem RM {f:FuncId} (hN:(P.funcs.all λfn=> !(fn.name== "runtime.NumGoroutine"))=true) (h:(P.funcs[f]?.bind (·.body)).isSome):xE P f=true:=by
 grind[xE]
theorem Z5 {run:RunT} (hr:HC P run) (hN:(P.funcs.all λfn=> !(fn.name== "runtime.NumGoroutine"))=true):rT P (uN P H run):=by
 intro fv az I v I' h c
 cases fv with
 |fn f bY=>
  obtain⟨h1,h2,_⟩:=Kf hr h
  refine VC.of h1 (RM hN h2) (List.range I.length) Be sm (λi j o hi ho=> ?_) ?_ ?_
  .grind[AG,DP]
  .have: ∀l:List V,bP (cT (cK (List.range I.length) I.length)) l l:=by
    intro l
    induction l with
    |nil=>trivial
    |cons a l ih=>exact⟨.inl (by grind[AF,DP]),ih⟩
   grind
  .rintro r s ⟨rfl,rfl⟩ hl
   rw[AF (λi=>DP),Z4 (by grind)]
   simp
 |_=>cases h
theorem Z6 {run:RunT} (hr:HC P run) (hN:(P.funcs.all λfn=> !(fn.name== "runtime.NumGoroutine"))=true):DO P (uN P H run):=by
 intro fv az v I' h hn hf ha c s
 cases fv with
 |fn f bY=>
  obtain⟨_,h2,h3⟩:=Kf hr h
  have hcn:bY.all gK:=by
   simp only[gK,vX,oQ]at hf
   rw[Am]at hf⊢
   intro x hx
   have:=hf x hx
   cases x<;>first|exact this|cases this
  refine zL (P:=P) (c:=c) (KV:=λr s'=>r=v/\s'=s) (h3 rfl hn) (RM hN h2) (yG (by grind)) hn sm
 |_=>cases h
section
variable {P:Program} {T:k6} {H:FuncId->aj0}
theorem RN {ms:aj0} {b:Code} {x:Exit} {l':List V} {I':St} {N nt:Nat} (hk: ∀k,k<=N->HC P (td P T H k)) (ab:nt<=100000) {c:Ctx} {Q:QT} (hx:RL x) (hQ:Q x (eP ms l') I')
  {l:List V} {I:St} (h:td P T H (N+1) ms (.loop b) l I=some (x,l',I')) (hl:l.length=nt):VW P c nt (.loop b) Q (eP ms l) I:=by
 intro a w L J hs
 refine QV (λm a w=> ∃l I L J,m<=N+1/\l.length=nt/\td P T H m ms (.loop b) l I=some (x,l',I')/\dQ c nt (eP ms l) I a w L J) (N+1) (by grind) ?_
 rintro m a w ⟨l,I,L,J,hm,hl,h,hs⟩
 cases m with
 |zero=>cases h
 |succ k=>
  have h:pV P T H (td P T H k) ms (.loop b) l I=some (x,l',I'):=h
  simp only[pV]at h
  split at h
  .rename_i l1 I1 hb
   obtain⟨e1,e2,e3⟩:=hk k om _ _ _ _ _ _ _ hb om
   have e4:=e3 c (λex e s=>ex= .normal/\e=eP ms l1/\s=I1) ⟨rfl,rfl,rfl⟩
   rw[hl]at e4
   refine wp_mono (e4 a w L J hs) λex a' w' q=> ?_
   cases ex with
   |normal=>
    obtain⟨e',s',L',J',aa,_,rfl,rfl⟩:=q
    exact⟨k,om,l1,s',L',J',om,om,h,aa⟩
   |exit id=>obtain⟨_,_,_,_,_,q,_⟩:=q;cases q
   |ret=>obtain⟨_,_,_,_,_,q,_⟩:=q;cases q
   |goto _=>simpa
   |panic _=>simpa
   |outgrown=>simpa
  .rename_i ad
   obtain⟨e1,e2,e3⟩:=hk k om _ _ _ _ _ _ _ h om
   have e4:=e3 c (λex e s=>ex=x/\e=eP ms l'/\s=I') ⟨rfl,rfl,rfl⟩
   rw[hl]at e4
   refine wp_mono (e4 a w L J hs) λex a' w' q=> ?_
   cases ex with
   |normal=>
    obtain⟨e',s',L',J',aa,q,_,_⟩:=q
    simp_all
   |exit id=>obtain⟨e',s',L',J',aa,rfl,rfl,rfl⟩:=q;exact⟨_,_,L',J',aa,hQ⟩
   |ret=>obtain⟨e',s',L',J',aa,rfl,rfl,rfl⟩:=q;exact⟨_,_,L',J',aa,hQ⟩
   |goto _=>simpa
   |panic _=>simpa
   |outgrown=>simpa
theorem RO (hT:rT P T) (hT0: ∀fv az,T fv az []=none) (hN:(P.funcs.all λfn=> !(fn.name== "runtime.NumGoroutine"))=true) (hm:P.follows .mixedOrders): ∀n k,k<=n->HC P (td P T H k):=by
 intro n
 induction n with
 |zero=>
  intro k hk
  have:k=0:=om
  subst this
  intro ms code l I x l' I' h
  cases h
 |succ n ih=>
  intro k hk
  rcases Bv k (n+1)with Qt|hge
  .grind
  have:k=n+1:=om
  subst this
  have tf:=ih n (A7 n)
  have hc:rT P (AK T (uN P H (td P T H n))):=ZZ hT (Z5 tf hN)
  have RP:DO P (AK T (uN P H (td P T H n))):=(by grind[Z0,Z6])
  intro ms code l I x l' I' h0 hl
  have h:pV P T H (td P T H n) ms code l I=some (x,l',I'):=h0
  cases code with
  |skip=>simp only[pV]at h;cases h;exact⟨rfl,rfl,λc Q hQ=>rM .skip Q _ _ hQ⟩
  |label s=>simp only[pV]at h;cases h;exact⟨rfl,rfl,λc Q hQ=>rM (.label s) Q _ _ hQ⟩
  |exit id=>simp only[pV]at h;cases h;exact⟨rfl,rfl,λc Q hQ=>rM (.exit id) Q _ _ hQ⟩
  |ret=>simp only[pV]at h;cases h;exact⟨rfl,rfl,λc Q hQ=>rM .ret Q _ _ hQ⟩
  |seq x1 y1=>
   simp only[pV]at h
   split at h
   .rename_i l1 I1 hb
    obtain⟨e1,e2,e3⟩:=tf _ _ _ _ _ _ _ hb hl
    obtain⟨f1,f2,f3⟩:=tf _ _ _ _ _ _ _ h om
    refine⟨om,f2,λc Q hQ=> ?_⟩
    refine JV (K:=λe s=>e=eP ms l1/\s=I1) (e3 c _ (by trivial)) ?_
    rintro e' s' ⟨rfl,rfl⟩
    have:=f3 c Q hQ
    rwa [e1]at this
   .rename_i Z7
    obtain⟨e1,e2,e3⟩:=tf _ _ _ _ _ _ _ h hl
    refine⟨e1,e2,λc Q hQ=> ?_⟩
    refine JV (K:=λ_ _=>False) (e3 c _ ?_) sm
    show Ms _ Q x _ _
    cases x with
    |normal=>grind
    |_=>exact hQ
  |cond y t f=>
   simp only[pV]at h
   split at h
   .rename_i hy
    obtain⟨e1,e2,e3⟩:=tf _ _ _ _ _ _ _ h hl
    exact⟨e1,e2,λc Q hQ=>JW hy (λ_=>e3 c Q hQ) sm⟩
   .rename_i hy
    obtain⟨e1,e2,e3⟩:=tf _ _ _ _ _ _ _ h hl
    exact⟨e1,e2,λc Q hQ=>JW hy sm (λ_=>e3 c Q hQ)⟩
   grind
  |block id b=>
   simp only[pV]at h
   split at h
   .rename_i sS l1 I1 hb
    obtain⟨e1,e2,e3⟩:=tf _ _ _ _ _ _ _ hb hl
    split at h
    .rename_i hid
     cases h
     refine⟨e1,rfl,λc Q hQ=>AD (e3 c _ ?_)⟩
     show(if sS=id then Q .normal _ _ else Q (.exit sS) _ _)
     grind
    .rename_i hid
     cases h
     refine⟨e1,rfl,λc Q hQ=>AD (e3 c _ ?_)⟩
     show(if sS=id then Q .normal _ _ else Q (.exit sS) _ _)
     grind
   .rename_i Z7
    obtain⟨e1,e2,e3⟩:=tf _ _ _ _ _ _ _ h hl
    refine⟨e1,e2,λc Q hQ=>AD (e3 c _ ?_)⟩
    show CA id Q x _ _
    cases x with
    |exit sS=>grind
    |_=>exact hQ
  |region id ops draw=>
   cases draw with
   |true=>
    simp only[pV,aiE]at h
    split at h
    .rename_i l1 I1 hx
     cases h
     refine⟨(RH hc RP hm (c:=⟨default,λ_=>0,[],[],[]⟩) (id:=id) hx hl).1,rfl,λc Q hQ=> ?_⟩
     have:=(RH hc RP hm (c:=c) (id:=id) hx hl).2 Q hQ
     omega
    grind
   |false=>
    simp only[pV,Cu,aiL]at h
    split at h
    .rename_i l1 I1 hx
     cases h
     refine⟨(Kc hc (c:=⟨default,λ_=>0,[],[],[]⟩) _ _ _ _ _ hx hl).1,rfl,λc Q hQ=> ?_⟩
     have:=(Kc hc (c:=c) _ _ _ _ _ hx hl).2 (Q .normal) hQ
     grind[rM,qu]
    grind
  |loop b=>
   have hh:=h
   simp only[pV]at h
   split at h
   .rename_i l1 I1 hb
    obtain⟨e1,e2,e3⟩:=tf _ _ _ _ _ _ _ hb hl
    obtain⟨f1,f2,f3⟩:=tf _ _ _ _ _ _ _ h om
    exact⟨om,f2,λc Q hQ=>RN ih hl f2 hQ h0 rfl⟩
   .obtain⟨e1,e2,e3⟩:=tf _ _ _ _ _ _ _ h hl
    exact⟨e1,e2,λc Q hQ=>RN ih hl e2 hQ h0 rfl⟩
  |rangeFunc _ _ _ _=>trivial
  |scope _=>trivial
  |goto _=>trivial
  |refuse _=>trivial
theorem Z8 (hN:(P.funcs.all λfn=> !(fn.name== "runtime.NumGoroutine"))=true) (hm:P.follows .mixedOrders) (H:FuncId->aj0) (n:Nat) {f:FuncId} {az:List V} {I I':St} {v:V} (h:uN P H (td P eQ H n) (.fn f []) az I=some (v,I')):
  bN P f az I (λr s=>r=v/\s=I'):=by
 have:=(Kf (RO RJ (λ_ _=>rfl) hN hm n n om) h).1
 grind
def RQ (P:Program) (H:FuncId->aj0) (n:Nat) (f:FuncId) (az:List V):Option V:=
 match uN P H (td P eQ H n) (.fn f []) az []with
 |some (v,_)=>if gK v then some v else none
 |none=>none
theorem wk (hN:(P.funcs.all λfn=> !(fn.name== "runtime.NumGoroutine"))=true) (hm:P.follows .mixedOrders) (H:FuncId->aj0) (n:Nat) {f:FuncId} {az:List V} {v:V} (h:RQ P H n f az=some v):Pure P f az v:=by
 unfold RQ at h
 split at h
 .rename_i v' s hx
  split at h
  .rename_i hn
   cases h
   have:=(Kf (RO RJ (λ_ _=>rfl) hN hm n n om) hx).2.2 rfl hn
   grind
  grind
 grind
end
section
variable {P:Program} {c:Ctx} {nt:Nat} {n0:Kp} {K:KT} {e:Env} {I:St} {d:Option Tmp}
variable {x:Operand}{t:TypeId}{k:Operand}
@[go_sem] theorem wm:eJ P c nt d (.mapEntry t x k) K fx fx e I=dR nt d (wD (gD P t) I (zG e x) (zG e k)) K fx e I:=(xB rfl rfl).trans rfl
@[go_sem] theorem tg {s v:Operand}:eJ P c nt d (.entryStore t x s v) K fx fx e I=dR nt d (xT I (zG e x) (zG e s) (zG e v)) K fx e I:=(xB rfl rfl).trans rfl
@[go_sem] theorem FX:eJ P c nt d (.entry x) K fx fx e I=dR nt d (qo I (zG e x)) K fx e I:=(xB rfl rfl).trans rfl
@[go_sem] theorem Kg:eJ P c nt d (.makeInterface t x) K fx fx e I=dR nt d (yz (EV P t) t (zG e x)) K fx e I:=(xB rfl rfl).trans rfl
@[go_sem] theorem AM {ok:Bool}:eL P c nt n0 4 d (.lookup t x k ok) K fx fx e I=eJ P c nt d (.lookup t x k ok) K fx fx e I:=JQ (λ_ _ _ _ _ h=>by cases h) (λ_ _ h=>by cases h) (λ_ _=>rfl) (λ_ _ _ h=>by cases h)
@[go_sem] theorem th {v:Operand}:eL P c nt n0 4 d (.mapUpdate t x k v) K fx fx e I=eJ P c nt d (.mapUpdate t x k v) K fx fx e I:=JQ (λ_ _ _ _ _ h=>by cases h) (λ_ _ h=>by cases h) (λ_ _=>rfl) (λ_ _ _ h=>by cases h)
@[go_sem] theorem rU {s v:Operand}:eL P c nt n0 4 d (.entryStore t x s v) K fx fx e I=eJ P c nt d (.entryStore t x s v) K fx fx e I:=JQ (λ_ _ _ _ _ h=>by cases h) (λ_ _ h=>by cases h) (λ_ _=>rfl) (λ_ _ _ h=>by cases h)
theorem Kh (h2:jN n0 3 I (wD (gD P t) I (zG e x) (zG e k))) (h:eJ P c nt d (.mapEntry t x k) K fx fx e I):eL P c nt n0 3 d (.mapEntry t x k) K fx fx e I:=by
 rw[JR (λ_ _ _ _ _ h=>by cases h) (λ_ _=>rfl) h2 (λ_ _ _ h=>by cases h)];exact h
theorem RU {s v:Operand} (h2:jN n0 3 I (xT I (zG e x) (zG e s) (zG e v))) (h:eJ P c nt d (.entryStore t x s v) K fx fx e I):eL P c nt n0 3 d (.entryStore t x s v) K fx fx e I:=by
 rw[JR (λ_ _ _ _ _ h=>by cases h) (λ_ _=>rfl) h2 (λ_ _ _ h=>by cases h)];exact h
theorem RV {m:Option (Kk×V)} {id:Nat} {kv:V} {ok:Bool} {g:Ob->R} (hg:g=λo=>xZ m [o] (.mp 0) kv ok) (s:St):xZ m s (.mp id) kv ok=match s[id]?.map g with
  |some r=>r
  |none=>xZ m [] (.mp 0) kv ok:=by
 subst hg
 unfold xZ
 cases m with
 |none=>cases s[id]? <;>rfl
 |some p=>
  obtain⟨kd,z⟩:=p
  by_cases hk:mT kd kv=true
  .cases h:s[id]? <;>simp[hk,h]
  .cases h:s[id]? <;>simp[hk]
theorem RW {ok:Bool} {id:Nat} {kv:V} {m:Option (Kk×V)} {g:Ob->R} (hx:zG e x= .mp id) (hk:zG e k=kv) (hm:gD P t=m) (hg:g=λo=>xZ m [o] (.mp 0) kv ok) (ad:n0.ob=some (id,g)) (hn:id<n0.n) {v:V} (hv:xZ m I (.mp id) kv ok= .ok v)
  (h:iI nt d v K fx e I):eL P c nt n0 1 d (.lookup t x k ok) K fx fx e I:=by
 have aa: ∀s,cu P e s (.lookup t x k ok)=xZ m s (.mp id) kv ok:=λs=>by simp only[cu,hx,hk,hm]
 have ab: ∀s,n0.of s=n0.of I->cu P e s (.lookup t x k ok)=cu P e I (.lookup t x k ok):=λs hs=>by
  rw[aa s,aa I,RV hg s,RV hg I]
  have h2:=aiz Prod.snd hs
  unfold Kp.of at h2
  simp only[ad,Ax,Ap,aiv hn]at h2
  rw[h2]
 show fU P c nt n0 1 d (.lookup t x k ok) K e I
 have h1:=vZ (P:=P) (e:=e) (I:=I) (.lookup t x k ok) (λ_ _ _ _ _ h=>by cases h)
 have h0:qG (cu P e I (.lookup t x k ok))=false:=by simp only[cu];unfold xZ;(repeat' split)<;>rfl
 have hh:cQ P d e (.lookup t x k ok):= .inr λ_ _=>rfl
 unfold fU
 refine⟨λ_=>hh,by rw[qE hh];exact h1,λq=>by simp at q,λ_=> .inr ⟨λ_ _ h=>(by cases h),ab⟩,λq=>absurd q (by rw[qE hh,h0];decide),by rw[qE hh];exact z7 h0, ?_⟩
 rw[qE hh,aa I,hv]
 exact h
@[go_sem] theorem Kp.Nx {n id:Nat} {ex:aj0} {ob:Option (Nat×(Ob->R))}:(Kp.mk 0 n ex ob).has id=(decide (id<n)&& !ex.contains id):=by simp[Kp.has]
theorem yH {n0:Nat} {keep:aj0} {vs:List V} {e:Env} {I:St} (hn:n0<=I.length) (h:keep.map e=vs):At n0 keep vs I e I:=by
 have ra: ∀i,cK (List.range I.length) I.length i=i:=λi=>by
  by_cases h:i<I.length
  .exact qC h
  .rw[qp (by simp;omega)];simp;omega
 refine⟨List.range I.length,⟨sm,Be,λi j o hi ho=> ?_,λi hi=>by rw[Dc om]⟩, ?_⟩
 .obtain⟨h1,h2⟩:=A4.1 hi
  simp at h1 h2
  subst h2
  rw[AG ra]
  exact ho
 .rw[h]
  have: ∀l:List V,bP (cT (cK (List.range I.length) I.length)) l l:=by
   intro l
   induction l with
   |nil=>trivial
   |cons a l ih=>exact⟨.inl (AF ra a).symm,ih⟩
  exact this _
theorem Ny {id:Nat} {ops:List Oper} {Q:QT} (q:List (Nat×Nat)) (k:Kp) (hn:k.n<=I.length) (hm:P.follows .mixedOrders) (hd:(uG ops q&&rO ops)) (h:rQ P c nt k ops q 0 ops (Q .normal) fx fx fx e I):gE P c nt (.region id ops.toArray true) Q fx fx e I:=by
 simp only[Ab]at hd
 obtain⟨tr,ht,hK⟩:=DA ops 0 (Q .normal) e I h
 exact VW.draw (n0:=k) hm hn hd.1 hd.2 ht hK
end
end Go.Vx
