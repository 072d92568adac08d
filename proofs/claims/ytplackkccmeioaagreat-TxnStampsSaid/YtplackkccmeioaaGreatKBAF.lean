/-
  Rules of the walk for maps: an entry that is laid for `m[k] op= v`, looked at and laid in regions whose order is open.
  No condition: a library text; nothing of the program is named.
-/
import Derived.Test.YtplackkccmeioaaGreatKBAE
set_option maxHeartbeats 8000000
namespace Go.Vx
open Go
variable {P:Program}{I:St}{e:Env}{I':St}{l:List V}{nt:Nat}{d:Option Tmp}{K:KT}{op:Op}{ms:ahQ}{c:Ctx}{H:FuncId->ahQ}
def yR (b:Bool):R->Prop
 | .ec p _=>b=true->p
 | .dz p _ _=>b=true->p
 |_=>True
def kZ (s:Nat) (rows:List (List V)):Bool:=rows.all λr=>r.length==s
theorem vI {s:Nat} {rows:List (List V)} (h:kZ s rows):eI s rows:=λr hr=>by
 have:=Am.1 h r hr
 grind
def Mt:List V->Bool
 | [.int .u8 _]=>true
 |_=>false
theorem YC {rows:List (List V)} (h:rows.all Mt):Ga rows:=λr hr=>by
 have:=Am.1 h r hr
 unfold Mt at this
 grind
def Jr (op:BinOp) (y:Int):Bool:=
 match op with
 | .quo| .rem=>decide (y≠0)
 | .shl| .shr=>decide (0<=y)
 |_=>true
def Mu (op:BinOp) (x y:ahP):Bool:=
 match op with
 | .add=>decide (x.length+y.length<=9223372036854775807)
 |_=>true
def CG (op:BinOp) (x y:V):Bool:=
 match x,y with
 | .int _ _,.int _ b=>Jr op b
 | .str a,.str b=>Mu op a b
 |_,_=>true
theorem YD (op:BinOp) (k:IntKind) (x y:Int):yR (Jr op y) (AI op k x y):=by
 cases op<;>simp[AI,Jr,yR]
theorem YE (op:BinOp) (x y:ahP):yR (Mu op x y) (AJ op x y):=by
 cases op<;>simp[AJ,Mu,yR]
theorem YF (op:BinOp) (ek:Nat) (es:Option (List Pk)) (x y:V):yR (CG op x y) (mz op ek es x y):=by
 unfold mz
 split
 .grind[CG,YD,Jr,yR]
 .exact YE ..
 all_goals (repeat' split)<;>trivial
theorem YG (op:BinOp) (ek:Nat) (x:V) (b:Bool):yR b (uX op ek x):=by
 unfold uX F5
 (repeat' split)<;>trivial
def Mw (sl:ahV) (ar:Option (Nat×Nat×Bool)) (x i:V):Bool:=
 match x,i with
 | .sl _ rows,.int _ k=>(match sl with|some s=>decide (0<=k/\k<rows.length/\(rows.getD k.toNat []).length=s)|none=>true)
 | .ptr _ _,.int _ k=>(match ar with|some (n,_,_)=>decide (0<=k/\k<n)|none=>true)
 | .n5 _ _,.int _ k=>(match ar with|some (n,_,_)=>decide (0<=k/\k<n)|none=>true)
 | .cJ _ _ _ _ m,.int _ k=>decide (0<=k/\k<m)
 | .jO _ _ _ n,.int _ k=>decide (0<=k/\k<n)
 |_,_=>true
theorem YH (sl:ahV) (ar:Option (Nat×Nat×Bool)) (x i:V):yR (Mw sl ar x i) (u7 sl ar x i):=by
 unfold u7
 split
 all_goals first|trivial|simp only[Mw]
 all_goals split<;>first|trivial|simp only[yR,ahl,imp_self]
def vJ (x i:V) (ar:Option (Nat×Nat×Bool)):Bool:=
 match x,i with
 | .str b,.int _ k=>decide (0<=k/\k<b.length)
 | .agg cs,.int _ k=>(match ar with|some (n,s,false)=>decide (0<=k/\k<n/\(k.toNat*s)<cs.length)|_=>true)
 |_,_=>true
theorem YI (x i:V) (str:Bool) (ar:Option (Nat×Nat×Bool)):yR (vJ x i ar) (u9 x i str ar):=by
 unfold u9
 split
 .simp only[vJ]
  split<;>first|trivial|simp only[yR,ahl,imp_self]
 .split
  all_goals simp[vJ,yR]
 trivial
def GO (es:ahV) (x:V) (lo hi:Option V):Bool:=
 match x with
 | .cJ _ s n l0 m=>(match nE lo 0,nE hi m,es with|some l,some h,some z=>decide (0<=l/\l<=h/\(h<=m\/(l0:Int)+h<=n)/\z=s)|_,_,_=>true)
 | .str s=>(match nE lo 0,nE hi s.length with|some l,some h=>decide (0<=l/\l<=h/\h<=s.length)|_,_=>true)
 | .sl _ rows=>(match nE lo 0,nE hi rows.length,es with|some l,some h,some z=>decide (0<=l/\l<=h/\h<=rows.length)&&kZ z rows|_,_,_=>true)
 |_=>true
theorem YJ (ar:Option (Nat×Nat×Bool)) (k:Nat) (es:ahV) (x:V) (lo hi:Option V):yR (GO es x lo hi) (rV ar k es x lo hi):=by
 unfold rV
 split
 .split
  .rename_i h1 h2
   split
   all_goals simp_all[GO,yR]
  trivial
 .split<;>trivial
 .split
  .rename_i h1 h2
   split
   all_goals simp_all[GO,yR]
  trivial
 .split
  .rename_i h1 h2
   split
   all_goals simp_all[GO,yR,vI]
  trivial
 trivial
def Mx (es:ahV) (x lo hi mx:V):Bool:=
 match x,lo,hi,mx,es with
 | .sl _ rows,.int _ l,.int _ h,.int _ m,some z=>decide (0<=l/\l<=h/\h<=rows.length/\m=h)&&kZ z rows
 | .cJ _ s _ _ n,.int _ l,.int _ h,.int _ m,some z=>decide (0<=l/\l<=h/\h<=m/\m<=n/\z=s)
 |_,_,_,_,_=>true
theorem YK (es:ahV) (x lo hi mx:V):yR (Mx es x lo hi mx) (xh es x lo hi mx):=by
 unfold xh
 split
 all_goals simp_all[Mx,yR,vI]
def QG (x:V):Bool:=
 match x with
 | .sl _ rows=>rows.all Mt
 |_=>true
theorem YL (ks kd:Option Kd) (x:V):yR (QG x) (ve ks kd x):=by
 unfold ve
 split
 .split<;>trivial
 .split<;>trivial
 .split<;>trivial
 .split
  .exact YC
  trivial
 trivial
def GP (el:Option (Nat×Nat)) (l m:V):Bool:=
 match el,l,m with
 |some (_,kW),.int .i64 n,.int .i64 k=>decide (0<=n/\n<=k/\k.toNat*kW<=140737488355328)
 |_,_,_=>false
theorem YM (el:Option (Nat×Nat)) (zs:Option (List V)) (I:St) (l m:V):yR (GP el l m) (vf el zs I l m):=by
 unfold vf
 split
 all_goals simp[GP,yR]
theorem YN (el:Option (Nat×Nat)) (zs:Option (List V)) (I:St) (l m:V):yR (GP el l m) (vg el zs I l m):=by
 unfold vg
 split
 all_goals simp[GP,yR]
def My (sl:ahV) (I:St) (x:V):Bool:=
 match x with
 | .cJ id s n lo m=>(match I[id]? with|some (.cj rows s')=>decide (sl=some s/\s'=s/\rows.length=n/\lo+m<=n)|_=>true)
 |_=>true
theorem YO (sl:ahV) (zs:Option (List V)) (I:St) (x:V):yR (My sl I x) (vh sl zs I x):=by
 unfold vh
 split
 .split
  all_goals simp_all[My,yR]
 trivial
def pX (I:St):V->Bool
 | .cJ id s n lo m=>(match I[id]? with|some (.cj rows s')=>decide (s'=s/\rows.length=n/\lo+m<=n)&&xQ ((rows.drop lo).take m)|_=>false)
 |_=>true
theorem GQ {y:V} (h:pX I y):rR I y:=by
 unfold rR
 split
 .simp only[pX]at h
  split at h
  .rename_i h1
   rw[h1]
   simp only[Ab,ahl]at h
   exact⟨h.1.1,h.1.2.1,h.1.2.2,h.2⟩
  grind
 simp
def Fg (el:Option (Nat×Nat)) (k2:Nat) (I:St) (x y:V):Bool:=
 match el,AL k2 I y with
 |some (s,kW),some r2=>
  (match x with
  | .sl .full r1=>pX I y&&decide ((r1.length+r2.length)*kW<=140737488355328)&&kZ s r1&&kZ s r2
  | .sl (.app id) r1=>(match I[id]? with
   |some (.app n s')=>pX I y&&decide (r1.length=n/\s'=s/\(r1.length+r2.length)*kW<=140737488355328)&&kZ s r2
   |_=>true)
  | .cJ id s1 n lo m=>(match I[id]? with
   |some (.cj rows s')=>pX I y&&decide (s1=s/\s'=s/\rows.length=n)&&kZ s r2&&(decide (lo+m+r2.length<=n)||decide (lo=0/\m=n/\(n+r2.length)*kW<=140737488355328))
   |_=>true)
  |_=>true)
 |_,_=>true
theorem YP (el:Option (Nat×Nat)) (k2:Nat) (I:St) (x y:V):yR (Fg el k2 I x y) (rS el k2 I x y):=by
 unfold rS
 split
 .rename_i h2
  split
  .simp_all[Fg,yR,GQ,vI]
  .split
   all_goals simp_all[Fg,yR,GQ,vI]
  .split
   .rename_i h3
    split
    .simp_all[Fg,yR,GQ,vI]
    simp_all[Fg,yR,GQ,vI];omega
   trivial
  trivial
 trivial
def Mz (I:St):V->Bool
 | .cJ id s n lo m=>(match I[id]? with|some (.cj rows s')=>decide (s'=s/\rows.length=n/\lo+m<=n)|_=>false)
 |_=>true
theorem QH {y:V} (h:Mz I y):AM I y:=by
 unfold AM
 split
 .simp only[Mz]at h
  grind
 simp
def GR (el:Option (Nat×Nat)) (k2:Nat) (I:St) (x y:V):Bool:=
 match x with
 | .cJ id s1 n lo m=>(match el,F7 k2 I y with
  |some (s,kW),some r2=>(match I[id]? with
   |some (.cj rows s')=>Mz I y&&decide (s1=s/\s'=s/\rows.length=n)&&kZ s r2&&(decide (lo+m+r2.length<=n)||decide (lo=0/\m=n/\(n+r2.length)*kW<=140737488355328))
   |_=>true)
  |_,_=>true)
 |x=>match el,AL k2 I y with
 |some (s,kW),some r2=>
  (match x with
  | .sl .full r1=>pX I y&&decide ((r1.length+r2.length)*kW<=140737488355328)&&kZ s r1&&kZ s r2&&(!r2.isEmpty||r1.isEmpty)
  |_=>true)
 |_,_=>true
theorem YQ (el:Option (Nat×Nat)) (k2:Nat) (I:St) (x y:V):yR (GR el k2 I x y) (rT el k2 I x y):=by
 unfold rT
 split
 .split
  .rename_i h2
   split
   .rename_i h3
    split
    .simp_all[GR,yR,QH,vI]
    simp_all[GR,yR,QH,vI];omega
   trivial
  trivial
 .split
  .rename_i h2
   split
   .simp only[GR,h2,yR,Ab,ahl]
    grind[GQ,vI]
   trivial
  trivial
def GS (L:Bool) (es:ahV) (len:Nat) (parts:List (Nat×V)):Bool:=
 match es with
 |some s=>(parts.all λp=>(L||nD p.2)&&(xM p.2).length==s)&&decide (len*s<=16777216/\0<s)
 |none=>true
theorem YR (es:ahV) (len:Nat) (parts:List (Nat×V)):yR (GS false es len parts) (vd es len parts):=by
 unfold vd
 split
 .split
  all_goals simp[GS,yR]
 trivial
theorem YS (es:ahV) (len:Nat) (I:St) (parts:List (Nat×V)):yR (GS true es len parts) (vi es len I parts):=by
 unfold vi
 split
 .split
  all_goals simp[GS,yR]
 trivial
def CH (P:Program) (L:Bool) (e:Env) (I:St):Op->Bool
 | .buildSlice t n ps=>GS L ((eE P t).map (·.1)) n (ps.toList.map λp=>(p.1,zG e p.2))
 | .binOp op _ x y _=>CG op (zG e x) (zG e y)
 | .convert _ _ x=>QG (zG e x)
 | .slice t x lo hi none=>if L then false else GO ((eE P t).map (·.1)) (zG e x) (lo.map (zG e)) (hi.map (zG e))
 | .slice t x (some lo) (some hi) (some mx)=>Mx ((eE P t).map (·.1)) (zG e x) (zG e lo) (zG e hi) (zG e mx)
 | .indexAddr t x i=>Mw (eT P t) (iI P t) (zG e x) (zG e i)
 | .index t x i=>vJ (zG e x) (zG e i) (iI P t)
 | .makeSlice t l m=>GP (eE P t) (zG e l) (zG e m)
 | .call ⟨.builtin .append,⟨[x,y]⟩,⟨[t,t']⟩⟩=>if L then GR (eE P t) (dI P t') I (zG e x) (zG e y)else Fg (eE P t) (dI P t') I (zG e x) (zG e y)
 | .call ⟨.builtin .clear,⟨[x]⟩,⟨[t]⟩⟩=>My ((eE P t).map (·.1)) I (zG e x)
 |_=>true
def YT:R->Bool
 | .ec _ _| .dz _ _ _=>false
 |_=>true
theorem yT {b:Bool} {r:R} (h:YT r):yR b r:=by
 cases r<;>first|trivial|cases h
theorem MA (op:Op):yR (CH P false e I op) (ct P e I op):=by
 unfold ct
 split
 .trivial
 .trivial
 .refine yT ?_;unfold w7;(repeat' split)<;>rfl
 .refine yT ?_;unfold qW;(repeat' split)<;>rfl
 .refine yT ?_;unfold uZ;(repeat' split)<;>rfl
 .refine yT ?_;unfold xf;(repeat' split)<;>rfl
 .exact YR ..
 .refine yT ?_;unfold mL;(repeat' split)<;>first|rfl|(unfold qV;(repeat' split)<;>rfl)
 .refine yT ?_;unfold uY;(repeat' split)<;>rfl
 .refine yT ?_;unfold xa;(repeat' split)<;>rfl
 .split
  .grind[YG]
  .split
   .refine yT ?_;unfold xt;(repeat' split)<;>rfl
   .exact YF ..
 .refine yT ?_;unfold mK;(repeat' split)<;>rfl
 .exact YL ..
 .exact YJ ..
 .exact YK ..
 .refine yT ?_;unfold xc;(repeat' split)<;>rfl
 .refine yT ?_;unfold xi;(repeat' split)<;>rfl
 .exact YH ..
 .exact YI ..
 .refine yT ?_;unfold xb;(repeat' split)<;>rfl
 .refine yT ?_;unfold xj;(repeat' split)<;>rfl
 .exact YM ..
 .refine yT ?_;unfold xe;(repeat' split)<;>rfl
 .exact YP ..
 .exact YO ..
 .refine yT ?_;unfold pI;(repeat' split)<;>rfl
 .refine yT ?_;unfold pI;(repeat' split)<;>rfl
 .refine yT ?_;unfold xr;(repeat' split)<;>rfl
 .refine yT ?_;unfold xp;(repeat' split)<;>rfl
 .refine yT ?_;unfold xW;(repeat' split)<;>rfl
 .refine yT ?_;unfold xT;(repeat' split)<;>rfl
 .refine yT ?_;unfold xT;(repeat' split)<;>rfl
 .refine yT ?_;unfold wB;(repeat' split)<;>rfl
 .refine yT ?_;unfold xP;(repeat' split)<;>rfl
 .refine yT ?_;unfold xu;(repeat' split)<;>rfl
 .refine yT ?_;unfold pL;(repeat' split)<;>rfl
 .refine yT ?_;unfold xw;(repeat' split)<;>rfl
 .refine yT ?_;unfold mO;(repeat' split)<;>rfl
 .trivial
theorem YU (op:Op):yR (CH P false e I op&&CH P true e I op) (hZ P e I op):=by
 have kT: ∀{b c:Bool} {r:R},yR b r->yR (c&&b) r:=by
  intro b c r h
  cases r with
  |ec p v=>exact λq=>h (by grind)
  |dz p v s=>exact λq=>h (by grind)
  |_=>trivial
 have aa: ∀{b c:Bool} {r:R},yR b r->yR (b&&c) r:=by
  simp_all
 unfold hZ
 split
 .exact kT (YS ..)
 .exact kT (YN ..)
 .refine yT ?_;unfold xk;(repeat' split)<;>rfl
 .refine kT (b:=false) ?_;unfold xg;(repeat' split)<;>first|trivial|exact λq=>by cases q
 .exact kT (YQ ..)
 .refine yT ?_;unfold mO;(repeat' split)<;>rfl
 grind[MA]
def pY (b:Bool) (I:St):R->Option (V×St)
 | .ok v=>some (v,I)
 | .ec _ v=>if b then some (v,I)else none
 | .st v I'=>some (v,I')
 | .dz _ v I'=>if b then some (v,I')else none
 |_=>none
def MB (P:Program) (d:Option Tmp) (e:Env) (I:St) (op:Op):Option (V×St):=
 if lA e d then pY (CH P false e I op&&CH P true e I op) I (hZ P e I op)else pY (CH P false e I op) I (ct P e I op)
theorem MC {b:Bool} {r:R} {v:V} (hn:yR b r) (h:pY b I r=some (v,I')) (hk:eY nt d v K e I'):lM nt d r K e I:=by
 cases r with
 |fail=>cases h
 |ok v'=>cases h;exact hk
 |ec p v'=>
  simp only[pY]at h
  split at h
  .rename_i hb
   cases h;exact⟨hn hb,hk⟩
  grind
 |st v' s=>cases h;exact hk
 |dz p v' s=>
  simp only[pY]at h
  split at h
  .rename_i hb
   cases h;exact⟨hn hb,hk⟩
  grind
 |all f=>cases h
 |any l=>cases h
theorem YV {v:V} (h:MB P d e I op=some (v,I')) (hk:eY nt d v K e I'):lM nt d (xU P d e I op) K e I:=by
 unfold MB at h
 unfold xU
 split at h
 .rename_i hh
  rw[ahg hh]
  grind[MC,YU]
 .rename_i hh
  rw[ahf hh]
  grind[MC,MA]
def eM (ms:ahQ) (l:List V):Env:=λt=>if t<100000 then l.getD t .u else if ms.contains (t - 100000)then .cy []else .u
theorem YW {t:Nat} {v:V} (h:t<l.length) (hl:l.length<=100000):fm (eM ms l) t v=eM ms (l.set t v):=by
 funext k
 simp only[fm,eM]
 grind
def pZ (d:Option Tmp) (v:V) (l:List V):Option (List V):=
 match d with
 |some t=>if t<l.length then some (l.set t v)else none
 |none=>some l
theorem Js {v:V} {l':List V} (h:pZ d v l=some l') (hl:l.length<=100000):l'.length=l.length/\ ∀(K:KT) (I:St),K (eM ms l') I->eY l.length d v K (eM ms l) I:=by
 unfold pZ at h
 unfold eY
 split at h
 .grind[YW]
 grind
def Jt (g:Option (Nat×Bool)) (ops:List Oper) (e:Env):Option Bool:=
 match g with
 |none=>some true
 |some (j,want)=>(match jQ ops j with|some t=>(match e t with| .bool b=>some (b==want)| .cy []=>some false|_=>none)|none=>none)
theorem Ju {g:Option (Nat×Bool)} {ops:List Oper} {A B:Prop} {r:Bool} (h:Jt g ops e=some r) (ha:r=true->A) (hb:r=false->B):tY g ops e A B:=by
 unfold Jt at h
 unfold tY
 split at h
 .grind
 .split at h
  .rename_i t ht
   simp only[ht]
   unfold ku
   grind
  grind
abbrev kN:=V->List V->St->Option (V×St)
def rl (P:Program) (call:kN):Prop:= ∀fv az I v I',call fv az I=some (v,I')-> ∀c,VC P c fv az I (λr s=>r=v/\s=I')
def CI (P:Program) (call:kN) (d:Option Tmp) (e:Env) (I:St) (op:Op):Option (V×St):=
 match op with
 | .call ⟨.value f,args,_⟩=>call (zG e f) (args.toList.map (zG e)) I
 |op=>MB P d e I op
theorem YX {call:kN} (hc:rl P call) {v:V} (h:CI P call d e I op=some (v,I')) (hk:eY nt d v K e I'):jo P c nt d op K e I:=by
 unfold CI at h
 unfold jo
 split at h
 .refine(hc _ _ _ _ _ h c).mono ?_
  grind
 .rename_i aa
  split
  .grind
  grind[YV]
def GU (P:Program) (call:kN) (ms:ahQ) (ops:List Oper):List Oper->List V->St->Option (List V×St)
 | [],l,I=>some (l,I)
 |o::rest,l,I=>
  match Jt o.guard ops (eM ms l)with
  |none=>none
  |some true=>(match CI P call o.dst (eM ms l) I o.op with
   |some (v,I')=>(match pZ o.dst v l with|some l'=>GU P call ms ops rest l' I'|none=>none)
   |none=>none)
  |some false=>(match pZ o.dst (.cy []) l with|some l'=>GU P call ms ops rest l' I|none=>none)
theorem Jv {P:Program} {call:kN} (hc:rl P call) {ms:ahQ} {ops:List Oper} {c:Ctx}: ∀(rest:List Oper) (l:List V) (I:St) (l':List V) (I':St),GU P call ms ops rest l I=some (l',I')->l.length<=100000->
  l'.length=l.length/\ ∀K:KT,K (eM ms l') I'->jR P c l.length ops rest K (eM ms l) I
 | [],l,I,l',I',h,hl=>by cases h;exact⟨rfl,λK hk=>hk⟩
 |o::rest,l,I,l',I',h,hl=>by
  unfold GU at h
  split at h
  .cases h
  .rename_i hg
   split at h
   .rename_i v s1 ho
    split at h
    .rename_i l1 hp
     obtain⟨e1,e2⟩:=Js (ms:=ms) hp hl
     obtain⟨e3,e4⟩:=Jv hc (c:=c) rest l1 s1 l' I' h om
     refine⟨om,λK hk=> ?_⟩
     refine Ju hg (λ_=> ?_) sm
     grind[YX]
    grind
   grind
  .rename_i hg
   split at h
   .rename_i l1 hp
    obtain⟨e1,e2⟩:=Js (ms:=ms) hp hl
    obtain⟨e3,e4⟩:=Jv hc (c:=c) rest l1 I l' I' h om
    refine⟨om,λK hk=> ?_⟩
    refine Ju hg sm (λ_=> ?_)
    grind
   grind
def GV:Op->Bool
 | .buildSlice .. | .makeSlice .. | .convert .. | .call _| .next .. | .slice .. =>false
 |_=>true
theorem YY (h:GV op): ∀e I,hZ P e I op=ct P e I op:=by
 intro e I
 cases op<;>first|rfl|cases h
def QI (n0:Kp) (e:Env):Op->Bool
 | .load _ x=>BS n0 (zG e x)
 |_=>false
def YZ:Op->Bool
 | .alloc _| .box .. =>true
 |_=>false
def QJ (P:Program) (n0:Kp) (k:Nat) (d:Option Tmp) (e:Env) (I:St) (op:Op):Bool:=
 (!lA e d||GV op)&&(k !=0||lB op==0)&&(k !=1||QI n0 e op)&&(!pV (ct P e I op)||decide (3<=k))&&(k==4||(k==3&&YZ op)|| !pV (ct P e I op))
def CJ (P:Program) (call:kN) (n0:Kp) (k:Nat) (d:Option Tmp) (e:Env) (I:St) (op:Op):Option (V×St):=
 match op with
 | .call ⟨.value f,args,_⟩=>if k=0 then(match call (zG e f) (args.toList.map (zG e)) []with|some (v,_)=>if gA v&&gA (zG e f)&&(args.toList.map (zG e)).all gA then some (v,I)else none|none=>none)
   else if k=4 then(match call (zG e f) (args.toList.map (zG e)) I with|some (v,I')=>if I.length<=I'.length then some (v,I')else none|none=>none)
   else none
 |op=>if QJ P n0 k d e I op then pY (CH P false e I op) I (ct P e I op)else none
def CK (P:Program) (call:kN):Prop:= ∀fv az v I',call fv az []=some (v,I')->gA v=true->gA fv=true->az.all gA=true-> ∀c s,VC P c fv az s (λr s'=>r=v/\s'=s)
theorem Y0 {call:kN} (hc:rl P call) (hp:CK P call) {n0:Kp} {k:Nat} {v:V} (h:CJ P call n0 k d e I op=some (v,I')) (hk:eY nt d v K e I'):fK P c nt n0 k d op K e I:=by
 unfold CJ at h
 unfold fK
 split at h
 .split at h
  .rename_i ab
   split at h
   .rename_i v' s' aa
    split at h
    .rename_i hn
     cases h
     simp only[Ab]at hn
     subst ab
     refine⟨v,I, ?_,λ_=>rfl,om,om,hk⟩
     rw[ahg rfl]
     exact λs=>hp _ _ _ _ aa hn.1.1 hn.1.2 hn.2 c s
    grind
   grind
  .split at h
   .rename_i ab ad
    split at h
    .rename_i v' s' aa
     split at h
     .rename_i hle
      cases h
      subst ad
      refine⟨v,I', ?_,om,om,hle,hk⟩
      rw[ahf dC,ahf dC]
      exact hc _ _ _ _ _ aa c
     grind
    grind
   grind
 .rename_i ae
  split
  .grind
  .split at h
   .rename_i ht
    simp only[QJ,Ab,C9,Dc,bne_iff_ne,ahm,ahl]at ht
    obtain⟨⟨⟨⟨t1,t2⟩,t3⟩,t4⟩,t5⟩:=ht
    have hh:cN P d e op:=by
     rcases t1 with t1|t1
     .exact .inl t1
     .exact .inr (YY t1)
    rw[pT hh]
    refine⟨λ_=>hh, ?_,om,λq=> ?_,(by grind), ?_,MC (MA op) h hk⟩
    .cases hr:ct P e I op with
     |all f=>rw[hr]at h;cases h
     |any l=>rw[hr]at h;cases h
     |_=>rfl
    .have:=t3.resolve_left (λw=>w q)
     unfold QI at this
     grind
    .rcases t5 with (t5|t5)|t5
     .grind[LS]
     .obtain⟨t5,t6⟩:=t5
      subst t5
      cases op with
      |alloc t=>simp only[ct];unfold qW;split<;>first|trivial|exact⟨sm,λ_=> .inl ⟨_,rfl⟩⟩
      |box t x=>simp only[ct];unfold uZ;split<;>first|trivial|exact⟨sm,λ_=> .inl ⟨_,rfl⟩⟩
      |_=>cases t6
     grind[yw]
   grind
def Fh (P:Program) (call:kN) (n0:Kp) (ms:ahQ) (ops:List Oper) (q:List (Nat×Nat)):Nat->List Oper->List V->St->Option (List V×St)
 |_,[],l,I=>some (l,I)
 |i,o::rest,l,I=>
  match Jt o.guard ops (eM ms l)with
  |none=>none
  |some true=>(match CJ P call n0 (zZ q i o) o.dst (eM ms l) I o.op with
   |some (v,I')=>(match pZ o.dst v l with|some l'=>Fh P call n0 ms ops q (i+1) rest l' I'|none=>none)
   |none=>none)
  |some false=>(match pZ o.dst (.cy []) l with|some l'=>Fh P call n0 ms ops q (i+1) rest l' I|none=>none)
theorem MD {P:Program} {call:kN} (hc:rl P call) (aa:CK P call) {n0:Kp} {ms:ahQ} {ops:List Oper} {q:List (Nat×Nat)} {c:Ctx}: ∀(rest:List Oper) (i:Nat) (l:List V) (I:St) (l':List V) (I':St),Fh P call n0 ms ops q i rest l I=some (l',I')->l.length<=100000->
  l'.length=l.length/\ ∀K:KT,K (eM ms l') I'->rh P c l.length n0 ops q i rest K (eM ms l) I
 | [],i,l,I,l',I',h,hl=>by cases h;exact⟨rfl,λK hk=>hk⟩
 |o::rest,i,l,I,l',I',h,hl=>by
  unfold Fh at h
  split at h
  .cases h
  .rename_i hg
   split at h
   .rename_i v s1 ho
    split at h
    .rename_i l1 hp
     obtain⟨e1,e2⟩:=Js (ms:=ms) hp hl
     obtain⟨e3,e4⟩:=MD hc aa (c:=c) rest (i+1) l1 s1 l' I' h om
     refine⟨om,λK hk=> ?_⟩
     refine Ju hg (λ_=> ?_) sm
     grind[Y0]
    grind
   grind
  .rename_i hg
   split at h
   .rename_i l1 hp
    obtain⟨e1,e2⟩:=Js (ms:=ms) hp hl
    obtain⟨e3,e4⟩:=MD hc aa (c:=c) rest (i+1) l1 I l' I' h om
    refine⟨om,λK hk=> ?_⟩
    refine Ju hg sm (λ_=> ?_)
    grind
   grind
def ME:Nat->List Oper->List (Nat×Nat)
 |_,[]=> []
 |i,o::os=>(match o.op with| .call ⟨.value _,_,_⟩=> [(i,0)]|_=> [])++ME (i+1) os
def MF:Nat->List Oper->List (Nat×Nat)
 |_,[]=> []
 |i,o::os=>(match o.op with| .store .. => [(i,4)]| .call ⟨.builtin .append,_,_⟩=> [(i,4)]|_=> [])++MF (i+1) os
def QK:Nat->List Oper->List (Nat×Nat)
 |_,[]=> []
 |i,o::os=>(match o.op with| .store .. => [(i,4)]| .call ⟨.builtin .append,_,_⟩=> [(i,4)]| .call ⟨.value _,_,_⟩=> [(i,4)]|_=> [])++QK (i+1) os
def QL:Nat->List Oper->List (Nat×Nat)
 |_,[]=> []
 |i,o::os=>(match o.op with| .store .. => [(i,4)]| .load .. => [(i,4)]| .alloc _=> [(i,4)]| .call ⟨.builtin .append,_,_⟩=> [(i,4)]| .call ⟨.value _,_,_⟩=> [(i,4)]|_=> [])++QL (i+1) os
def QM (ops:List Oper):List (List (Nat×Nat)):= [[],ME 0 ops,MF 0 ops,ME 0 ops++MF 0 ops,QK 0 ops,QL 0 ops]
def Jw (P:Program) (call:kN) (ms:ahQ) (ops:List Oper) (l:List V) (I:St):List (List (Nat×Nat))->Option (List V×St)
 | []=>none
 |q::qs=>if uf ops q then(match Fh P call (Kp.pre I.length) ms ops q 0 ops l I with|some r=>some r|none=>Jw P call ms ops l I qs)else Jw P call ms ops l I qs
def MG (P:Program) (call:kN) (ms:ahQ) (ops:List Oper) (l:List V) (I:St):Option (List V×St):=
 if rb ops then Jw P call ms ops l I (QM ops)else none
theorem QN {call:kN} (hc:rl P call) (aa:CK P call) (hm:P.follows .mixedOrders) {ops:List Oper} {id:Nat} {l':List V} (h:MG P call ms ops l I=some (l',I')) (hl:l.length<=100000):
  l'.length=l.length/\ ∀Q:QT,Q .normal (eM ms l') I'->VW P c l.length (.region id ops.toArray true) Q (eM ms l) I:=by
 unfold MG at h
 split at h
 .rename_i he
  have go: ∀q,uf ops q=true->Fh P call (Kp.pre I.length) ms ops q 0 ops l I=some (l',I')->l'.length=l.length/\ ∀Q:QT,Q .normal (eM ms l') I'->VW P c l.length (.region id ops.toArray true) Q (eM ms l) I:=by
   intro q hd hx
   obtain⟨e1,e2⟩:=MD hc aa (c:=c) ops 0 l I l' I' hx hl
   exact⟨e1,λQ hq=>yL q I.length rfl hm (by grind) (e2 (Q .normal) hq)⟩
  generalize QM ops=qs at h
  induction qs<;>grind[Jw]
 grind
abbrev RunT:=ahQ->Code->List V->St->Option (Exit×List V×St)
def QO:Exit->Bool
 | .normal| .ret=>true
 |_=>false
def uj (P:Program) (H:FuncId->ahQ) (run:RunT):kN:=λfv az I=>
 match fv with
 | .fn f bY=>(match P.funcs[f]? with
  |some fn=>(match fn.body with
   |some code=>if decide ((az++bY).length<=fn.ntmps)&&decide (fn.ntmps<=100000)then
     (match run (H f) code ((az++bY)++List.replicate (fn.ntmps - (az++bY).length) .u) I with
     |some (x,l',I')=>if QO x&&decide (I.length<=I'.length)then(match lO P fn.results.toList (eM (H f) l') I' with|some v=>some (v,I')|none=>none)else none
     |none=>none)else none
   |none=>none)
  |none=>none)
 |_=>none
def zb (T call:kN):kN:=λfv az I=>match T fv az I with|some r=>some r|none=>call fv az I
theorem Y1 {T call:kN} (hT:rl P T) (hc:rl P call):rl P (zb T call):=by
 intro fv az I v I' h c
 unfold zb at h
 split at h
 .rename_i r hr
  cases h
  exact hT _ _ _ _ _ hr c
 .exact hc _ _ _ _ _ h c
theorem Y2 {T call:kN} (hT: ∀fv az,T fv az []=none) (hc:CK P call):CK P (zb T call):=by
 intro fv az v I' h
 unfold zb at h
 rw[hT]at h
 exact hc fv az v I' h
def dS:kN:=λ_ _ _=>none
theorem QP:rl P dS:=λ_ _ _ _ _ h=>by cases h
def pq (P:Program) (T:kN) (H:FuncId->ahQ) (run:RunT):RunT:=λms code l I=>
 match code with
 | .skip=>some (.normal,l,I)
 | .label _=>some (.normal,l,I)
 | .exit id=>some (.exit id,l,I)
 | .ret=>some (.ret,l,I)
 | .seq x y=>(match run ms x l I with
  |some (.normal,l',I')=>run ms y l' I'
  |r=>r)
 | .cond x t f=>(match zG (eM ms l) x with| .bool true=>run ms t l I| .bool false=>run ms f l I|_=>none)
 | .block id b=>(match run ms b l I with
  |some (.exit sj,l',I')=>if sj=id then some (.normal,l',I')else some (.exit sj,l',I')
  |r=>r)
 | .region _ ops draw=>if draw then(match MG P (zb T (uj P H run)) ms ops.toList l I with|some (l',I')=>some (.normal,l',I')|none=>none)
   else(match GU P (zb T (uj P H run)) ms ops.toList ops.toList l I with|some (l',I')=>some (.normal,l',I')|none=>none)
 | .loop b=>(match run ms b l I with
  |some (.normal,l',I')=>run ms (.loop b) l' I'
  |r=>r)
 |_=>none
def sG (P:Program) (T:kN) (H:FuncId->ahQ):Nat->RunT
 |0=>λ_ _ _ _=>none
 |n+1=>pq P T H (sG P T H n)
def QQ:Exit->Bool
 | .normal| .ret| .exit _=>true
 |_=>false
def GW (P:Program) (run:RunT):Prop:= ∀ms code l I x l' I',run ms code l I=some (x,l',I')->l.length<=100000->
 l'.length=l.length/\QQ x=true/\ ∀(c:Ctx) (Q:QT),Q x (eM ms l') I'->VW P c l.length code Q (eM ms l) I
theorem Y3 (hl:l.length<=100000) (n:Nat):eM [] (l++List.replicate n .u)=jS 0 l:=by
 funext t
 have e1:=LB l 0 t
 rw[Ad]at e1
 rw[e1]
 unfold eM
 grind
theorem Y4 {t:Nat}:fm (eM ms l) (100000+t) (.cy [])=eM (t::ms) l:=by
 funext k
 unfold fm eM
 by_cases hk:k=100000+t
 .simp_all;omega
 .rw[ahf hk]
  by_cases h0:k<100000
  .rw[ahg h0,ahg h0]
  .have h2:(k - 100000==t)=false:=by simp;omega
   rw[ahf h0,ahf h0,Dh,h2,C6]
theorem VW.marks {code:Code} {Q:QT} (hn:nt<=100000) (ms:ahQ) (h:VW P c nt code Q (eM ms l) I):VW P c nt code Q (eM [] l) I:=by
 induction ms with
 |nil=>exact h
 |cons t ms ih=>
  refine ih ?_
  have h2:=y5 (P:=P) (c:=c) (nt:=nt) (Q:=Q) (e:=eM ms l) (I:=I) t (y:=code) hn
  rw[Y4]at h2
  exact h2 h
theorem CL {k i:Nat}:cH (List.range k) k i=i:=by
 grind[pS,pM]
theorem Y5 {n0:Nat} (h:n0<=I.length):gu n0 (List.range I.length) I I:=by
 refine⟨sm,Bc,λi j o hi ho=> ?_,(by grind)⟩
 grind[y8,CL]
theorem Jx {run:RunT} (hr:GW P run) {f:FuncId} {bY az:List V} {v:V} (h:uj P H run (.fn f bY) az I=some (v,I')):
  bN P f (az++bY) I (λr s=>r=v/\s=I')/\(P.funcs[f]?.bind (·.body)).isSome=true/\(I= []->gA v=true->bN P f (az++bY) I (λr s=>r=v/\s= [])):=by
 unfold uj at h
 simp only at h
 split at h
 .rename_i fn hf
  split at h
  .rename_i code hb
   split at h
   .rename_i hlen
    simp only[Ab,ahl]at hlen
    split at h
    .rename_i x l' s1 hx
     split at h
     .rename_i aa
      simp only[Ab,ahl]at aa
      split at h
      .rename_i v' hv
       cases h
       have ab:((az++bY)++List.replicate (fn.ntmps - (az++bY).length) V.u).length=fn.ntmps:=by
        grind
       obtain⟨e1,e2,e3⟩:=hr _ _ _ _ _ _ _ hx om
       have key: ∀R:V->St->Prop,pO I.length R v I'->bN P f (az++bY) I R:=by
        intro R hR
        refine bN.oj (rs:=fn.results.toList) I.length hf rfl sm hb rfl hlen.1 λc _ _=> ?_
        rw[<-Y3 om (fn.ntmps - (az++bY).length)]
        refine VW.marks hlen.2 (H f) ?_
        have:=e3 c (lP P fn.results.toList I.length R)
        rw[ab]at this
        refine this ?_
        have hq: ∃v,lO P fn.results.toList (eM (H f) l') I'=some v/\pO I.length R v I':=(by grind)
        cases x with
        |normal=>exact hq
        |ret=>exact hq
        |_=>simp[QO]at aa
       refine⟨key _ ⟨v,I',List.range I'.length,I',v,.refl _ _,Y5 aa.2,.inl (by grind[y7,CL]),rfl,rfl⟩, ?_,λh0 hn=> ?_⟩
       .grind
       .subst h0
        refine key _ ⟨v,I',[],[],v,.refl _ _,⟨rfl,C1,sm,sm⟩,zC hn,rfl,rfl⟩
      grind
     grind
    grind
   grind
  grind
 grind
theorem Y6 {s:St} (h:I.length<=s.length):xB (List.range I.length) I s=s:=by
 have hid:yE (cH (List.range I.length) I.length)=λo=>o:=funext (by grind[y8,CL])
 apply Bg
 intro i
 by_cases hi:i<s.length
 .have:=AR (cZ:=List.range I.length) (Ic:=I) (I':=s) Bc (λq hq=>Co.1 hq) (sU h) (A0 hi)
  grind[CL]
 grind[E7]
theorem QR {f:FuncId} (hN:(P.funcs.all λfn=> !(fn.name== "runtime.NumGoroutine"))=true) (h:(P.funcs[f]?.bind (·.body)).isSome):xF P f=true:=by
 grind[xF]
theorem Y7 {run:RunT} (hr:GW P run) (hN:(P.funcs.all λfn=> !(fn.name== "runtime.NumGoroutine"))=true):rl P (uj P H run):=by
 intro fv az I v I' h c
 cases fv with
 |fn f bY=>
  obtain⟨h1,h2,_⟩:=Jx hr h
  refine VC.of h1 (QR hN h2) (List.range I.length) Bc sm (λi j o hi ho=> ?_) ?_ ?_
  .grind[y8,CL]
  .have: ∀l:List V,bP (cP (cH (List.range I.length) I.length)) l l:=by
    intro l
    induction l with
    |nil=>trivial
    |cons a l ih=>exact⟨.inl (by grind[y7,CL]),ih⟩
   grind
  .rintro r s ⟨rfl,rfl⟩ hl
   rw[y7 (λi=>CL),Y6 (by grind)]
   simp
 |_=>cases h
theorem Y8 {run:RunT} (hr:GW P run) (hN:(P.funcs.all λfn=> !(fn.name== "runtime.NumGoroutine"))=true):CK P (uj P H run):=by
 intro fv az v I' h hn hf ha c s
 cases fv with
 |fn f bY=>
  obtain⟨_,h2,h3⟩:=Jx hr h
  have hcn:bY.all gA:=by
   simp only[gA,vy,oo]at hf
   rw[Am]at hf⊢
   intro x hx
   have:=hf x hx
   cases x<;>first|exact this|cases this
  refine zL (P:=P) (c:=c) (KV:=λr s'=>r=v/\s'=s) (h3 rfl hn) (QR hN h2) (yF (by grind)) hn sm
 |_=>cases h
section
variable {P:Program} {T:kN} {H:FuncId->ahQ}
theorem QS {ms:ahQ} {b:Code} {x:Exit} {l':List V} {I':St} {N nt:Nat} (hk: ∀k,k<=N->GW P (sG P T H k)) (ab:nt<=100000) {c:Ctx} {Q:QT} (hx:QQ x) (hQ:Q x (eM ms l') I')
  {l:List V} {I:St} (h:sG P T H (N+1) ms (.loop b) l I=some (x,l',I')) (hl:l.length=nt):VW P c nt (.loop b) Q (eM ms l) I:=by
 intro a w L J hs
 refine P4 (λm a w=> ∃l I L J,m<=N+1/\l.length=nt/\sG P T H m ms (.loop b) l I=some (x,l',I')/\dP c nt (eM ms l) I a w L J) (N+1) (by grind) ?_
 rintro m a w ⟨l,I,L,J,hm,hl,h,hs⟩
 cases m with
 |zero=>cases h
 |succ k=>
  have h:pq P T H (sG P T H k) ms (.loop b) l I=some (x,l',I'):=h
  simp only[pq]at h
  split at h
  .rename_i l1 I1 hb
   obtain⟨e1,e2,e3⟩:=hk k om _ _ _ _ _ _ _ hb om
   have e4:=e3 c (λex e s=>ex= .normal/\e=eM ms l1/\s=I1) ⟨rfl,rfl,rfl⟩
   rw[hl]at e4
   refine wp_mono (e4 a w L J hs) λex a' w' q=> ?_
   cases ex with
   |normal=>
    obtain⟨e',s',L',J',aa,_,rfl,rfl⟩:=q
    exact⟨k,om,l1,s',L',J',om,om,h,aa⟩
   |exit id=>obtain⟨_,_,_,_,_,q,_⟩:=q;cases q
   |ret=>obtain⟨_,_,_,_,_,q,_⟩:=q;cases q
   |goto _=>simpa
   |panic _=>simpa
   |outgrown=>simpa
  .rename_i ad
   obtain⟨e1,e2,e3⟩:=hk k om _ _ _ _ _ _ _ h om
   have e4:=e3 c (λex e s=>ex=x/\e=eM ms l'/\s=I') ⟨rfl,rfl,rfl⟩
   rw[hl]at e4
   refine wp_mono (e4 a w L J hs) λex a' w' q=> ?_
   cases ex with
   |normal=>
    obtain⟨e',s',L',J',aa,q,_,_⟩:=q
    simp_all
   |exit id=>obtain⟨e',s',L',J',aa,rfl,rfl,rfl⟩:=q;exact⟨_,_,L',J',aa,hQ⟩
   |ret=>obtain⟨e',s',L',J',aa,rfl,rfl,rfl⟩:=q;exact⟨_,_,L',J',aa,hQ⟩
   |goto _=>simpa
   |panic _=>simpa
   |outgrown=>simpa
theorem QU (hT:rl P T) (hT0: ∀fv az,T fv az []=none) (hN:(P.funcs.all λfn=> !(fn.name== "runtime.NumGoroutine"))=true) (hm:P.follows .mixedOrders): ∀n k,k<=n->GW P (sG P T H k):=by
 intro n
 induction n with
 |zero=>
  intro k hk
  have:k=0:=om
  subst this
  intro ms code l I x l' I' h
  cases h
 |succ n ih=>
  intro k hk
  rcases Bx k (n+1)with Px|hge
  .grind
  have:k=n+1:=om
  subst this
  have sH:=ih n (A7 n)
  have hc:rl P (zb T (uj P H (sG P T H n))):=Y1 hT (Y7 sH hN)
  have QV:CK P (zb T (uj P H (sG P T H n))):=(by grind[Y2,Y8])
  intro ms code l I x l' I' h0 hl
  have h:pq P T H (sG P T H n) ms code l I=some (x,l',I'):=h0
  cases code with
  |skip=>simp only[pq]at h;cases h;exact⟨rfl,rfl,λc Q hQ=>qZ .skip Q _ _ hQ⟩
  |label s=>simp only[pq]at h;cases h;exact⟨rfl,rfl,λc Q hQ=>qZ (.label s) Q _ _ hQ⟩
  |exit id=>simp only[pq]at h;cases h;exact⟨rfl,rfl,λc Q hQ=>qZ (.exit id) Q _ _ hQ⟩
  |ret=>simp only[pq]at h;cases h;exact⟨rfl,rfl,λc Q hQ=>qZ .ret Q _ _ hQ⟩
  |seq x1 y1=>
   simp only[pq]at h
   split at h
   .rename_i l1 I1 hb
    obtain⟨e1,e2,e3⟩:=sH _ _ _ _ _ _ _ hb hl
    obtain⟨f1,f2,f3⟩:=sH _ _ _ _ _ _ _ h om
    refine⟨om,f2,λc Q hQ=> ?_⟩
    refine Jg (K:=λe s=>e=eM ms l1/\s=I1) (e3 c _ (by trivial)) ?_
    rintro e' s' ⟨rfl,rfl⟩
    have:=f3 c Q hQ
    rwa [e1]at this
   .rename_i Y9
    obtain⟨e1,e2,e3⟩:=sH _ _ _ _ _ _ _ h hl
    refine⟨e1,e2,λc Q hQ=> ?_⟩
    refine Jg (K:=λ_ _=>False) (e3 c _ ?_) sm
    show LA _ Q x _ _
    cases x with
    |normal=>grind
    |_=>exact hQ
  |cond y t f=>
   simp only[pq]at h
   split at h
   .rename_i hy
    obtain⟨e1,e2,e3⟩:=sH _ _ _ _ _ _ _ h hl
    exact⟨e1,e2,λc Q hQ=>Jh hy (λ_=>e3 c Q hQ) sm⟩
   .rename_i hy
    obtain⟨e1,e2,e3⟩:=sH _ _ _ _ _ _ _ h hl
    exact⟨e1,e2,λc Q hQ=>Jh hy sm (λ_=>e3 c Q hQ)⟩
   grind
  |block id b=>
   simp only[pq]at h
   split at h
   .rename_i sj l1 I1 hb
    obtain⟨e1,e2,e3⟩:=sH _ _ _ _ _ _ _ hb hl
    split at h
    .rename_i hid
     cases h
     refine⟨e1,rfl,λc Q hQ=>y4 (e3 c _ ?_)⟩
     show(if sj=id then Q .normal _ _ else Q (.exit sj) _ _)
     grind
    .rename_i hid
     cases h
     refine⟨e1,rfl,λc Q hQ=>y4 (e3 c _ ?_)⟩
     show(if sj=id then Q .normal _ _ else Q (.exit sj) _ _)
     grind
   .rename_i Y9
    obtain⟨e1,e2,e3⟩:=sH _ _ _ _ _ _ _ h hl
    refine⟨e1,e2,λc Q hQ=>y4 (e3 c _ ?_)⟩
    show AU id Q x _ _
    cases x with
    |exit sj=>grind
    |_=>exact hQ
  |region id ops draw=>
   cases draw with
   |true=>
    simp only[pq,aho]at h
    split at h
    .rename_i l1 I1 hx
     cases h
     refine⟨(QN hc QV hm (c:=⟨default,λ_=>0,[],[],[]⟩) (id:=id) hx hl).1,rfl,λc Q hQ=> ?_⟩
     have:=(QN hc QV hm (c:=c) (id:=id) hx hl).2 Q hQ
     omega
    grind
   |false=>
    simp only[pq,Cw,ahx]at h
    split at h
    .rename_i l1 I1 hx
     cases h
     refine⟨(Jv hc (c:=⟨default,λ_=>0,[],[],[]⟩) _ _ _ _ _ hx hl).1,rfl,λc Q hQ=> ?_⟩
     have:=(Jv hc (c:=c) _ _ _ _ _ hx hl).2 (Q .normal) hQ
     grind[qZ,pN]
    grind
  |loop b=>
   have hh:=h
   simp only[pq]at h
   split at h
   .rename_i l1 I1 hb
    obtain⟨e1,e2,e3⟩:=sH _ _ _ _ _ _ _ hb hl
    obtain⟨f1,f2,f3⟩:=sH _ _ _ _ _ _ _ h om
    exact⟨om,f2,λc Q hQ=>QS ih hl f2 hQ h0 rfl⟩
   .obtain⟨e1,e2,e3⟩:=sH _ _ _ _ _ _ _ h hl
    exact⟨e1,e2,λc Q hQ=>QS ih hl e2 hQ h0 rfl⟩
  |rangeFunc _ _ _ _=>trivial
  |scope _=>trivial
  |goto _=>trivial
  |refuse _=>trivial
theorem Za (hN:(P.funcs.all λfn=> !(fn.name== "runtime.NumGoroutine"))=true) (hm:P.follows .mixedOrders) (H:FuncId->ahQ) (n:Nat) {f:FuncId} {az:List V} {I I':St} {v:V} (h:uj P H (sG P dS H n) (.fn f []) az I=some (v,I')):
  bN P f az I (λr s=>r=v/\s=I'):=by
 have:=(Jx (QU QP (λ_ _=>rfl) hN hm n n om) h).1
 grind
def QW (P:Program) (H:FuncId->ahQ) (n:Nat) (f:FuncId) (az:List V):Option V:=
 match uj P H (sG P dS H n) (.fn f []) az []with
 |some (v,_)=>if gA v then some v else none
 |none=>none
theorem vK (hN:(P.funcs.all λfn=> !(fn.name== "runtime.NumGoroutine"))=true) (hm:P.follows .mixedOrders) (H:FuncId->ahQ) (n:Nat) {f:FuncId} {az:List V} {v:V} (h:QW P H n f az=some v):Pure P f az v:=by
 unfold QW at h
 split at h
 .rename_i v' s hx
  split at h
  .rename_i hn
   cases h
   have:=(Jx (QU QP (λ_ _=>rfl) hN hm n n om) hx).2.2 rfl hn
   grind
  grind
 grind
end
section
variable {P:Program} {c:Ctx} {nt:Nat} {n0:Kp} {K:KT} {e:Env} {I:St} {d:Option Tmp}
variable {x:Operand}{t:TypeId}{k:Operand}
@[go_sem] theorem vL:eG P c nt d (.mapEntry t x k) K fx fx e I=dQ nt d (wB (gv P t) I (zG e x) (zG e k)) K fx e I:=(xC rfl rfl).trans rfl
@[go_sem] theorem sI {s v:Operand}:eG P c nt d (.entryStore t x s v) K fx fx e I=dQ nt d (xP I (zG e x) (zG e s) (zG e v)) K fx e I:=(xC rfl rfl).trans rfl
@[go_sem] theorem Fi:eG P c nt d (.entry x) K fx fx e I=dQ nt d (pL I (zG e x)) K fx e I:=(xC rfl rfl).trans rfl
@[go_sem] theorem Jy:eG P c nt d (.makeInterface t x) K fx fx e I=dQ nt d (xw (El P t) t (zG e x)) K fx e I:=(xC rfl rfl).trans rfl
@[go_sem] theorem zc {ok:Bool}:eJ P c nt n0 4 d (.lookup t x k ok) K fx fx e I=eG P c nt d (.lookup t x k ok) K fx fx e I:=Ja (λ_ _ _ _ _ h=>by cases h) (λ_ _ h=>by cases h) (λ_ _=>rfl) (λ_ _ _ h=>by cases h)
@[go_sem] theorem sJ {v:Operand}:eJ P c nt n0 4 d (.mapUpdate t x k v) K fx fx e I=eG P c nt d (.mapUpdate t x k v) K fx fx e I:=Ja (λ_ _ _ _ _ h=>by cases h) (λ_ _ h=>by cases h) (λ_ _=>rfl) (λ_ _ _ h=>by cases h)
@[go_sem] theorem rp {s v:Operand}:eJ P c nt n0 4 d (.entryStore t x s v) K fx fx e I=eG P c nt d (.entryStore t x s v) K fx fx e I:=Ja (λ_ _ _ _ _ h=>by cases h) (λ_ _ h=>by cases h) (λ_ _=>rfl) (λ_ _ _ h=>by cases h)
theorem Jz (h2:jy n0 3 I (wB (gv P t) I (zG e x) (zG e k))) (h:eG P c nt d (.mapEntry t x k) K fx fx e I):eJ P c nt n0 3 d (.mapEntry t x k) K fx fx e I:=by
 rw[Jb (λ_ _ _ _ _ h=>by cases h) (λ_ _=>rfl) h2 (λ_ _ _ h=>by cases h)];exact h
theorem QX {s v:Operand} (h2:jy n0 3 I (xP I (zG e x) (zG e s) (zG e v))) (h:eG P c nt d (.entryStore t x s v) K fx fx e I):eJ P c nt n0 3 d (.entryStore t x s v) K fx fx e I:=by
 rw[Jb (λ_ _ _ _ _ h=>by cases h) (λ_ _=>rfl) h2 (λ_ _ _ h=>by cases h)];exact h
theorem QY {m:Option (Kk×V)} {id:Nat} {kv:V} {ok:Bool} {g:Ob->R} (hg:g=λo=>xW m [o] (.mp 0) kv ok) (s:St):xW m s (.mp id) kv ok=match s[id]?.map g with
  |some r=>r
  |none=>xW m [] (.mp 0) kv ok:=by
 subst hg
 unfold xW
 cases m with
 |none=>cases s[id]? <;>rfl
 |some p=>
  obtain⟨kd,z⟩:=p
  by_cases hk:mA kd kv=true
  .cases h:s[id]? <;>simp[hk,h]
  .cases h:s[id]? <;>simp[hk]
theorem QZ {ok:Bool} {id:Nat} {kv:V} {m:Option (Kk×V)} {g:Ob->R} (hx:zG e x= .mp id) (hk:zG e k=kv) (hm:gv P t=m) (hg:g=λo=>xW m [o] (.mp 0) kv ok) (ad:n0.ob=some (id,g)) (hn:id<n0.n) {v:V} (hv:xW m I (.mp id) kv ok= .ok v)
  (h:iB nt d v K fx e I):eJ P c nt n0 1 d (.lookup t x k ok) K fx fx e I:=by
 have aa: ∀s,ct P e s (.lookup t x k ok)=xW m s (.mp id) kv ok:=λs=>by simp only[ct,hx,hk,hm]
 have ab: ∀s,n0.of s=n0.of I->ct P e s (.lookup t x k ok)=ct P e I (.lookup t x k ok):=λs hs=>by
  rw[aa s,aa I,QY hg s,QY hg I]
  have h2:=ahj Prod.snd hs
  unfold Kp.of at h2
  simp only[ad,Ay,An,ahg hn]at h2
  rw[h2]
 show fK P c nt n0 1 d (.lookup t x k ok) K e I
 have h1:=vC (P:=P) (e:=e) (I:=I) (.lookup t x k ok) (λ_ _ _ _ _ h=>by cases h)
 have h0:pV (ct P e I (.lookup t x k ok))=false:=by simp only[ct];unfold xW;(repeat' split)<;>rfl
 have hh:cN P d e (.lookup t x k ok):= .inr λ_ _=>rfl
 unfold fK
 refine⟨λ_=>hh,by rw[pT hh];exact h1,λq=>by simp at q,λ_=> .inr ⟨λ_ _ h=>(by cases h),ab⟩,λq=>absurd q (by rw[pT hh,h0];decide),by rw[pT hh];exact yw h0, ?_⟩
 rw[pT hh,aa I,hv]
 exact h
@[go_sem] theorem Kp.MH {n id:Nat} {ex:ahQ} {ob:Option (Nat×(Ob->R))}:(Kp.mk 0 n ex ob).has id=(decide (id<n)&& !ex.contains id):=by simp[Kp.has]
theorem yD {n0:Nat} {keep:ahQ} {vs:List V} {e:Env} {I:St} (hn:n0<=I.length) (h:keep.map e=vs):At n0 keep vs I e I:=by
 have ra: ∀i,cH (List.range I.length) I.length i=i:=λi=>by
  by_cases h:i<I.length
  .exact pS h
  .rw[pM (by simp;omega)];simp;omega
 refine⟨List.range I.length,⟨sm,Bc,λi j o hi ho=> ?_,λi hi=>by rw[De om]⟩, ?_⟩
 .obtain⟨h1,h2⟩:=A3.1 hi
  simp at h1 h2
  subst h2
  rw[y8 ra]
  exact ho
 .rw[h]
  have: ∀l:List V,bP (cP (cH (List.range I.length) I.length)) l l:=by
   intro l
   induction l with
   |nil=>trivial
   |cons a l ih=>exact⟨.inl (y7 ra a).symm,ih⟩
  exact this _
theorem MI {id:Nat} {ops:List Oper} {Q:QT} (q:List (Nat×Nat)) (k:Kp) (hn:k.n<=I.length) (hm:P.follows .mixedOrders) (hd:(uf ops q&&rb ops)) (h:ri P c nt k ops q 0 ops (Q .normal) fx fx fx e I):gx P c nt (.region id ops.toArray true) Q fx fx e I:=by
 simp only[Ab]at hd
 obtain⟨tr,ht,hK⟩:=BV ops 0 (Q .normal) e I h
 exact VW.draw (n0:=k) hm hn hd.1 hd.2 ht hK
end
end Go.Vx
