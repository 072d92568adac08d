/-
  Returns, loops and calls in their everyday forms.
  No condition: a library text; nothing of the program is named.
-/
import Derived.Test.YtajjjghohakniaaGreatLAK
namespace Go.Vx
open Go
def Fx.{v} {α:Sort v} (_:α):Type:=Unit
def fx.{v} {α:Sort v} {a:α}:Fx a:=()
abbrev KT:=Env→St→Prop
abbrev QT:=Exit→Env→St→Prop
def zo2 (P:Program) (c:Ctx) (nt:Nat) (code:Code) (Q:QT) (_:Fx code) (_:Fx Q) (e:Env) (σ:St):Prop:=zu3 P c nt code Q e σ
def wrun (P:Program) (c:Ctx) (nt:Nat) (ops l:List Oper) (K:KT) (_:Fx ops) (_:Fx l) (_:Fx K) (e:Env) (σ:St):Prop:=vrun P c nt ops l K e σ
def wop (P:Program) (c:Ctx) (nt:Nat) (d:Option Tmp) (op:Op) (K:KT) (_:Fx op) (_:Fx K) (e:Env) (σ:St):Prop:=vop P c nt d op K e σ
def wfin (nt:Nat) (d:Option Tmp) (r:R) (K:KT) (_:Fx K) (e:Env) (σ:St):Prop:=vfin nt d r K e σ
def wput (nt:Nat) (d:Option Tmp) (v:V) (K:KT) (_:Fx K) (e:Env) (σ:St):Prop:=vput nt d v K e σ
def zC8 (p q:Prop) (_:Fx q):Prop:=yJ8 p q
def yf8 (x:V) (A B:Prop) (_:Fx A) (_:Fx B):Prop:=yu1 x A B
def wgrd (x:V) (want:Bool) (A B:Prop) (_:Fx A) (_:Fx B):Prop:=vgrd x want A B
def wgdo (t:Option Tmp) (want:Bool) (e:Env) (A B:Prop) (_:Fx A) (_:Fx B):Prop:=match t with|some t=>vgrd (e t) want A B|none=>False
def wdst (ops:List Oper) (_:Fx ops) (j:Nat):Option Tmp:=gdst ops j
def zR4 (K:KT) (Q:QT) (_:Fx K) (_:Fx Q) (x:Exit) (e:Env) (σ:St):Prop:=yJ0 K Q x e σ
def wblk (id:Nat) (Q:QT) (_:Fx Q) (x:Exit) (e:Env) (σ:St):Prop:=blkV id Q x e σ
def wVW (P:Program) (c:Ctx) (nt:Nat) (code:Code) (Q:QT) (_:Fx code) (_:Fx Q) (e:Env) (σ:St):Prop:=VW P c nt code Q e σ
def wVC (P:Program) (c:Ctx) (fv:V) (as:List V) (σ:St) (K:V→St→Prop) (_:Fx K):Prop:=VC P c fv as σ K
def xe6 (nt:Nat) (d:Option Tmp) (K:KT) (_:Fx K) (e:Env) (v:V) (σ:St):Prop:=vput nt d v K e σ
section
variable {P:Program} {c:Ctx} {nt:Nat} {e:Env} {σ:St} {K:KT} {Q:QT} {d:Option Tmp}
theorem zJ {code:Code} (h:zo2 P c nt code Q fx fx e σ):zu3 P c nt code Q e σ:=h
@[go_sem] theorem wcode_skip:zo2 P c nt .skip Q fx fx e σ=Q .normal e σ:=id rfl
@[go_sem] theorem wcode_seq {x y:Code}:zo2 P c nt (.seq x y) Q fx fx e σ=zo2 P c nt x (zR4 (zo2 P c nt y Q fx fx) Q fx fx) fx fx e σ:=id rfl
@[go_sem] theorem wcode_cond {x:Operand} {t f:Code}:zo2 P c nt (.cond x t f) Q fx fx e σ=yf8 (zF e x) (zo2 P c nt t Q fx fx e σ) (zo2 P c nt f Q fx fx e σ) fx fx:=id rfl
@[go_sem] theorem wcode_block {i:Nat} {b:Code}:zo2 P c nt (.block i b) Q fx fx e σ=zo2 P c nt b (wblk i Q fx) fx fx e σ:=id rfl
@[go_sem] theorem wcode_exit {i:Nat}:zo2 P c nt (.exit i) Q fx fx e σ=Q (.exit i) e σ:=id rfl
@[go_sem] theorem wcode_ret:zo2 P c nt .ret Q fx fx e σ=Q .ret e σ:=id rfl
@[go_sem] theorem wcode_label {l:Nat}:zo2 P c nt (.label l) Q fx fx e σ=Q .normal e σ:=id rfl
@[go_sem] theorem wcode_region {i:Nat} {l:List Oper}:zo2 P c nt (.region i l.toArray false) Q fx fx e σ=wrun P c nt l l (Q .normal) fx fx fx e σ:=id rfl
@[go_sem] theorem wcode_draw {i:Nat} {ops:Array Oper}:zo2 P c nt (.region i ops true) Q fx fx e σ=wVW P c nt (.region i ops true) Q fx fx e σ:=id rfl
@[go_sem] theorem wcode_loop {b:Code}:zo2 P c nt (.loop b) Q fx fx e σ=wVW P c nt (.loop b) Q fx fx e σ:=id rfl
@[go_sem] theorem wthen_normal:zR4 K Q fx fx .normal e σ=K e σ:=id rfl
@[go_sem] theorem wthen_ret:zR4 K Q fx fx .ret e σ=Q .ret e σ:=id rfl
@[go_sem] theorem wthen_exit {i:Nat}:zR4 K Q fx fx (.exit i) e σ=Q (.exit i) e σ:=id rfl
@[go_sem] theorem wblk_normal {i:Nat}:wblk i Q fx .normal e σ=Q .normal e σ:=id rfl
@[go_sem] theorem wblk_ret {i:Nat}:wblk i Q fx .ret e σ=Q .ret e σ:=id rfl
@[go_sem] theorem wblk_same {i:Nat}:wblk i Q fx (.exit i) e σ=Q .normal e σ:=by show(if i=i then _ else _)=_;rw[if_pos rfl]
@[go_sem] theorem wblk_exit {i j:Nat}:wblk i Q fx (.exit j) e σ=if j=i then Q .normal e σ else Q (.exit j) e σ:=id rfl
theorem xE {op:Op} (h1:wJ P e σ op=evOp P e σ op) (h2:vop P c nt d op K e σ=vfin nt d (xG P d e σ op) K e σ):wop P c nt d op K fx fx e σ=wfin nt d (evOp P e σ op) K fx e σ:=by
 unfold wop wfin
 rw[h2]
 unfold xG
 rw[h1]
 simp
def wh (b:Bool) (x y:R):R:=if b=true then x else y
@[go_sem] theorem wh_t {x y:R}:wh true x y=x:=rfl
@[go_sem] theorem wh_f {x y:R}:wh false x y=y:=rfl
def yh9:V→Bool
 | .tup []=>true
 |_=>false
@[go_sem] theorem hinted_some {t:Nat}:zb4 e (some t)=yh9 (e (100000+t)):=by
 unfold zb4 yh9
 rfl
@[go_sem] theorem hinted_none:zb4 e none=false:=rfl
@[go_sem] theorem isMark_t:yh9 (.tup [])=true:=rfl
@[go_sem] theorem isMark_u:yh9 .u=false:=rfl
@[go_sem] theorem env0_u {t:Nat}:env0 t= .u:=rfl
@[go_sem] theorem wrun_nil {ops:List Oper}:wrun P c nt ops [] K fx fx fx e σ=K e σ:=id rfl
@[go_sem] theorem wrun_cons {ops rest:List Oper} {op:Op} {ty:TypeId} {pos:String} {aft:Array Edge}:wrun P c nt ops (⟨d,op,ty,pos,aft,none⟩::rest) K fx fx fx e σ=wop P c nt d op (wrun P c nt ops rest K fx fx fx) fx fx e σ:=id rfl
@[go_sem] theorem wrun_guard {ops rest:List Oper} {op:Op} {ty:TypeId} {pos:String} {aft:Array Edge} {j:Nat} {want:Bool}:wrun P c nt ops (⟨d,op,ty,pos,aft,some (j,want)⟩::rest) K fx fx fx e σ=
  wgdo (wdst ops fx j) want e (wop P c nt d op (wrun P c nt ops rest K fx fx fx) fx fx e σ) (wput nt d (.tup []) (wrun P c nt ops rest K fx fx fx) fx e σ) fx fx:=id rfl
@[go_sem] theorem wgdo_some {t:Tmp} {want:Bool} {A B:Prop}:wgdo (some t) want e A B fx fx=wgrd (e t) want A B fx fx:=id rfl
@[go_sem] theorem wdst_zero {d:Option Tmp} {op:Op} {ty:TypeId} {pos:String} {aft:Array Edge} {g:Option (Nat×Bool)} {l:List Oper}:wdst (⟨d,op,ty,pos,aft,g⟩::l) fx 0=d:=id rfl
@[go_sem] theorem wdst_succ {o:Oper} {l:List Oper} {n:Nat}:wdst (o::l) fx (n+1)=wdst l fx n:=by simp[wdst,gdst]
@[go_sem] theorem wgrd_tt {A B:Prop}:wgrd (.bool true) true A B fx fx=A:=by simp[wgrd,vgrd]
@[go_sem] theorem wgrd_ff {A B:Prop}:wgrd (.bool false) false A B fx fx=A:=by simp[wgrd,vgrd]
@[go_sem] theorem wgrd_tf {A B:Prop}:wgrd (.bool true) false A B fx fx=B:=by simp[wgrd,vgrd]
@[go_sem] theorem wgrd_ft {A B:Prop}:wgrd (.bool false) true A B fx fx=B:=by simp[wgrd,vgrd]
@[go_sem] theorem wgrd_no {want:Bool} {A B:Prop}:wgrd (.tup []) want A B fx fx=B:=by simp[wgrd,vgrd]
@[go_sem] theorem wcond_t {A B:Prop}:yf8 (.bool true) A B fx fx=A:=by simp[yf8,yu1]
@[go_sem] theorem wcond_f {A B:Prop}:yf8 (.bool false) A B fx fx=B:=by simp[yf8,yu1]
theorem zS {b:Bool} {A B:Prop} (ha:b=true→A) (hb:b=false→B):yf8 (.bool b) A B fx fx:=⟨ha,hb⟩
theorem yT {b want:Bool} {A B:Prop} (ha:b=want→A) (hb:b=(!want)→B):wgrd (.bool b) want A B fx fx:=⟨ha,fun h=>hb (by cases b<;>cases want<;>simp_all)⟩
theorem zO {p q:Prop} (hp:p) (hq:q):zC8 p q fx:=⟨hp,hq⟩
@[go_sem] theorem wneed_t {q:Prop}:zC8 True q fx=q:=by simp[zC8,yJ8]
@[go_sem] theorem wfin_ok {v:V}:wfin nt d (.ok v) K fx e σ=wput nt d v K fx e σ:=id rfl
@[go_sem] theorem wfin_need {p:Prop} {v:V}:wfin nt d (.need p v) K fx e σ=zC8 p (wput nt d v K fx e σ) fx:=id rfl
@[go_sem] theorem wfin_st {v:V} {s:St}:wfin nt d (.st v s) K fx e σ=wput nt d v K fx e s:=id rfl
@[go_sem] theorem wfin_needst {p:Prop} {v:V} {s:St}:wfin nt d (.needst p v s) K fx e σ=zC8 p (wput nt d v K fx e s) fx:=id rfl
@[go_sem] theorem wfin_fail:wfin nt d .fail K fx e σ=False:=id rfl
@[go_sem] theorem wput_some {t:Nat} {v:V}:wput nt (some t) v K fx e σ=(t<nt∧K (upd e t v) σ):=id rfl
@[go_sem] theorem wput_none {v:V}:wput nt none v K fx e σ=K e σ:=id rfl
@[go_sem] theorem wputK_eq {v:V}:xe6 nt d K fx e v σ=wput nt d v K fx e σ:=id rfl
@[go_sem] theorem wop_move {x:Operand}:wop P c nt d (.move x) K fx fx e σ=wput nt d (zF e x) K fx e σ:=(xE rfl rfl).trans rfl
@[go_sem] theorem wop_assign {x:Operand}:wop P c nt d (.assign x) K fx fx e σ=wput nt d (zF e x) K fx e σ:=(xE rfl rfl).trans rfl
@[go_sem] theorem wop_pick {x y z:Operand}:wop P c nt d (.pick x y z) K fx fx e σ=wfin nt d (zA5 (zF e x) (zF e y) (zF e z)) K fx e σ:=(xE rfl rfl).trans rfl
@[go_sem] theorem wop_alloc {t:TypeId}:wop P c nt d (.alloc t) K fx fx e σ=wfin nt d (zi7 P t σ) K fx e σ:=(xE rfl rfl).trans rfl
@[go_sem] theorem wop_box {t:TypeId} {x:Operand}:wop P c nt d (.box t x) K fx fx e σ=wfin nt d (zF8 σ (zF e x)) K fx e σ:=(xE rfl rfl).trans rfl
@[go_sem] theorem wop_build {t:TypeId} {l:List (Nat×Operand)}:wop P c nt d (.build t l.toArray) K fx fx e σ=wfin nt d (zt1 (zX P t) (plcT P t) (l.map fun p=>(p.1,zF e p.2))) K fx e σ:=(xE rfl rfl).trans rfl
@[go_sem] theorem wop_buildSlice {t:TypeId} {n:Nat} {l:List (Nat×Operand)}:wop P c nt d (.buildSlice t n l.toArray) K fx fx e σ=wfin nt d (wh (zb4 e d) (xW ((elT P t).map (·.1)) n σ (l.map fun p=>(p.1,zF e p.2))) (wK ((elT P t).map (·.1)) n (l.map fun p=>(p.1,zF e p.2)))) K fx e σ:=id rfl
@[go_sem] theorem wop_load {t:TypeId} {x:Operand}:wop P c nt d (.load t x) K fx fx e σ=wfin nt d (zf7 P t σ (zF e x)) K fx e σ:=(xE rfl rfl).trans rfl
@[go_sem] theorem wop_store {t:TypeId} {x y:Operand}:wop P c nt d (.store t x y) K fx fx e σ=wfin nt d (zp5 P t σ (zF e x) (zF e y)) K fx e σ:=(xE rfl rfl).trans rfl
@[go_sem] theorem wop_nil {x:Operand}:wop P c nt d (.nilCheck x) K fx fx e σ=wfin nt d (zQ2 (zF e x)) K fx e σ:=(xE rfl rfl).trans rfl
@[go_sem] theorem wop_bin {op:BinOp} {t t':TypeId} {x y:Operand}:wop P c nt d (.binOp op t x y t') K fx fx e σ=wfin nt d (wh (zf1 y) (zp4 op (eqK P t) (zF e x)) (wh (zd6 y) (zn6 op (zj1 P t) (zF e x)) (zk2 op (eqK P t) (eqS P t) (zF e x) (zF e y)))) K fx e σ:=(xE rfl rfl).trans rfl
@[go_sem] theorem isNilOp_tmp {t:Nat}:zf1 (.tmp t)=false:=rfl
@[go_sem] theorem isNilOp_nil:zf1 (.const (.slice none 0 0))=true:=rfl
@[go_sem] theorem isNilOp_int {k:IntKind} {n:Int}:zf1 (.const (.int k n))=false:=rfl
@[go_sem] theorem isNilOp_bool {b:Bool}:zf1 (.const (.bool b))=false:=rfl
@[go_sem] theorem isNilOp_str {b:ByteArray}:zf1 (.const (.string b))=false:=rfl
@[go_sem] theorem isNilOp_ptr {a:Option Addr}:zf1 (.const (.pointer a))=false:=rfl
@[go_sem] theorem isNilOp_func {f:FuncId}:zf1 (.func f)=false:=rfl
@[go_sem] theorem isNilOp_map {m:Option Nat}:zf1 (.const (.map m))=false:=rfl
@[go_sem] theorem isNilMap_tmp {t:Nat}:zd6 (.tmp t)=false:=rfl
@[go_sem] theorem isNilMap_nil:zd6 (.const (.map none))=true:=rfl
@[go_sem] theorem isNilMap_int {k:IntKind} {n:Int}:zd6 (.const (.int k n))=false:=rfl
@[go_sem] theorem isNilMap_bool {b:Bool}:zd6 (.const (.bool b))=false:=rfl
@[go_sem] theorem isNilMap_str {b:ByteArray}:zd6 (.const (.string b))=false:=rfl
@[go_sem] theorem isNilMap_ptr {a:Option Addr}:zd6 (.const (.pointer a))=false:=rfl
@[go_sem] theorem isNilMap_func {f:FuncId}:zd6 (.func f)=false:=rfl
def xw7 (l:List (V×St)) (A:V→St→Prop) (_:Fx A):Prop:= ∀p∈l,A p.1 p.2
@[go_sem] theorem wfin_any {l:List (V×St)}:wfin nt d (.any l) K fx e σ=xw7 l (fun v s=>wput nt d v K fx e s) fx:=id rfl
@[go_sem] theorem wop_makeMap {t:TypeId} {r:Option Operand}:wop P c nt d (.makeMap t r) K fx fx e σ=wfin nt d (zj6 σ (zj1 P t) (r.map (zF e))) K fx e σ:=(xE rfl rfl).trans rfl
@[go_sem] theorem wop_lookup {t:TypeId} {x k:Operand} {ok:Bool}:wop P c nt d (.lookup t x k ok) K fx fx e σ=wfin nt d (zn5 (mapT P t) σ (zF e x) (zF e k) ok) K fx e σ:=(xE rfl rfl).trans rfl
@[go_sem] theorem wop_mapUpdate {t:TypeId} {x k v:Operand}:wop P c nt d (.mapUpdate t x k v) K fx fx e σ=wfin nt d (xI (mapT P t) σ (zF e x) (zF e k) (zF e v)) K fx e σ:=(xE rfl rfl).trans rfl
@[go_sem] theorem wop_insert {t:TypeId} {x k v:Operand}:wop P c nt d (.insert t x k v) K fx fx e σ=wfin nt d (xI (mapT P t) σ (zF e x) (zF e k) (zF e v)) K fx e σ:=(xE rfl rfl).trans rfl
@[go_sem] theorem wop_range {t:TypeId} {x:Operand}:wop P c nt d (.range t x) K fx fx e σ=wfin nt d (zt4 (zj1 P t) σ (zF e x)) K fx e σ:=(xE rfl rfl).trans rfl
@[go_sem] theorem wop_next {x:Operand}:wop P c nt d (.next x false) K fx fx e σ=wfin nt d (wh (zb4 e d) (zo4 true σ (zF e x)) (zo4 false σ (zF e x))) K fx e σ:=id rfl
@[go_sem] theorem wop_delete {t t':TypeId} {x k:Operand}:wop P c nt d (.call ⟨.builtin .delete, #[x,k], #[t,t']⟩) K fx fx e σ=wfin nt d (zn4 (mapT P t) σ (zF e x) (zF e k)) K fx e σ:=(xE rfl rfl).trans rfl
attribute [go_sem] zB9 zs6 zj6 zn5 xI zt4 zo4 zn4 zn6 zG0 zu7 zQ8 yn6 zN5
def wall (A:Bool→Prop) (_:Fx A):Prop:= ∀b,A b
@[go_sem] theorem wfin_all {f:Bool→V}:wfin nt d (.all f) K fx e σ=wall (fun b=>wput nt d (f b) K fx e σ) fx:=id rfl
@[go_sem] theorem wop_un {op:UnOp} {t:TypeId} {x:Operand}:wop P c nt d (.unOp op t x) K fx fx e σ=wfin nt d (evUn op (zF e x)) K fx e σ:=(xE rfl rfl).trans rfl
@[go_sem] theorem wop_conv {t t':TypeId} {x:Operand}:wop P c nt d (.convert t t' x) K fx fx e σ=wfin nt d (wh (zb4 e d) (zt2 (kdT P t) (kdT P t') σ (zF e x)) (zx2 (kdT P t) (kdT P t') (zF e x))) K fx e σ:=id rfl
@[go_sem] theorem wop_slice {t:TypeId} {x:Operand} {hi:Option Operand}:wop P c nt d (.slice t x none hi none) K fx fx e σ=wfin nt d (zk3 (arrT P t) (lenT P t) ((elT P t).map (·.1)) (zF e x) none (hi.map (zF e))) K fx e σ:=(xE rfl rfl).trans rfl
@[go_sem] theorem wop_sliceH {t:TypeId} {x lo hi:Operand}:wop P c nt d (.slice t x (some lo) (some hi) none) K fx fx e σ=wfin nt d (zk3 (arrT P t) (lenT P t) ((elT P t).map (·.1)) (zF e x) (some (zF e lo)) (some (zF e hi))) K fx e σ:=(xE rfl rfl).trans rfl
@[go_sem] theorem wop_sliceL {t:TypeId} {x lo:Operand}:wop P c nt d (.slice t x (some lo) none none) K fx fx e σ=wfin nt d (wh (zb4 e d) (zn7 (lenT P t) ((elT P t).map (·.1)) σ (zF e x) (zF e lo)) (zk3 (arrT P t) (lenT P t) ((elT P t).map (·.1)) (zF e x) (some (zF e lo)) none)) K fx e σ:=id rfl
@[go_sem] theorem wop_slice3 {t:TypeId} {x lo hi mx:Operand}:wop P c nt d (.slice t x (some lo) (some hi) (some mx)) K fx fx e σ=wfin nt d (zk4 ((elT P t).map (·.1)) (zF e x) (zF e lo) (zF e hi) (zF e mx)) K fx e σ:=(xE rfl rfl).trans rfl
@[go_sem] theorem wop_fieldAddr {t:TypeId} {x:Operand} {f:Nat}:wop P c nt d (.fieldAddr t x f) K fx fx e σ=wfin nt d (zc9 P t (zF e x) f) K fx e σ:=(xE rfl rfl).trans rfl
@[go_sem] theorem wop_field {t:TypeId} {x:Operand} {f:Nat}:wop P c nt d (.field t x f) K fx fx e σ=wfin nt d (zt3 (fldT P t f) (zF e x)) K fx e σ:=(xE rfl rfl).trans rfl
@[go_sem] theorem wop_idxAddr {t:TypeId} {x i:Operand}:wop P c nt d (.indexAddr t x i) K fx fx e σ=wfin nt d (zg9 (slcT P t) (arrT P t) (zF e x) (zF e i)) K fx e σ:=(xE rfl rfl).trans rfl
@[go_sem] theorem wop_idx {t:TypeId} {x i:Operand}:wop P c nt d (.index t x i) K fx fx e σ=wfin nt d (zJ4 (zF e x) (zF e i) (strT P t) (arrT P t)) K fx e σ:=(xE rfl rfl).trans rfl
@[go_sem] theorem wop_extract {x:Operand} {i:Nat}:wop P c nt d (.extract x i) K fx fx e σ=wfin nt d (zj5 (zF e x) i) K fx e σ:=(xE rfl rfl).trans rfl
@[go_sem] theorem wop_func {fn:Fn} {l m:List Operand}:wop P c nt d (.makeFunc fn l.toArray m.toArray) K fx fx e σ=wfin nt d (zA3 fn l.length (m.map (zF e))) K fx e σ:=(xE rfl rfl).trans rfl
@[go_sem] theorem wop_make {t:TypeId} {l m:Operand}:wop P c nt d (.makeSlice t l m) K fx fx e σ=wfin nt d (wh (zb4 e d) (zp3 (elT P t) (zelT P t) σ (zF e l) (zF e m)) (zx4 (elT P t) (zelT P t) σ (zF e l) (zF e m))) K fx e σ:=id rfl
@[go_sem] theorem wop_len {t:TypeId} {x:Operand}:wop P c nt d (.call ⟨.builtin .len, #[x], #[t]⟩) K fx fx e σ=wfin nt d (zQ1 (lenT P t) (zF e x)) K fx e σ:=(xE rfl rfl).trans rfl
@[go_sem] theorem wop_clear {t:TypeId} {x:Operand}:wop P c nt d (.call ⟨.builtin .clear, #[x], #[t]⟩) K fx fx e σ=wfin nt d (zp2 ((elT P t).map (·.1)) (zelT P t) σ (zF e x)) K fx e σ:=(xE rfl rfl).trans rfl
@[go_sem] theorem wop_append {t t':TypeId} {x y:Operand}:wop P c nt d (.call ⟨.builtin .append, #[x,y], #[t,t']⟩) K fx fx e σ=wfin nt d (wh (zb4 e d) (zc3 (elT P t) (lenT P t') σ (zF e x) (zF e y)) (zf6 (elT P t) (lenT P t') σ (zF e x) (zF e y))) K fx e σ:=id rfl
@[go_sem] theorem wop_min {l:List Operand} {ts:Array TypeId}:wop P c nt d (.call ⟨.builtin .min,l.toArray,ts⟩) K fx fx e σ=wfin nt d (zv2 false (l.map (zF e))) K fx e σ:=(xE rfl rfl).trans rfl
@[go_sem] theorem wop_max {l:List Operand} {ts:Array TypeId}:wop P c nt d (.call ⟨.builtin .max,l.toArray,ts⟩) K fx fx e σ=wfin nt d (zv2 true (l.map (zF e))) K fx e σ:=(xE rfl rfl).trans rfl
@[go_sem] theorem wop_call {f:Operand} {l:List Operand} {ts:Array TypeId}:wop P c nt d (.call ⟨.value f,l.toArray,ts⟩) K fx fx e σ=wVC P c (zF e f) (l.map (zF e)) σ (xe6 nt d K fx e) fx:=id rfl
@[go_sem] theorem evalV_tmp {t:Nat}:zF e (.tmp t)=e t:=rfl
@[go_sem] theorem evalV_const {v:Value}:zF e (.const v)=za5 v:=rfl
@[go_sem] theorem evalV_glob {g:Nat}:zF e (.global g)=yF3 g:=rfl
@[go_sem] theorem evalV_func {f:FuncId}:zF e (.func f)= .fn f []:=rfl
@[go_sem] theorem upd_get {t':Nat} {v:V} {t:Nat}:upd e t' v t=if t=t' then v else e t:=rfl
@[go_sem] theorem ofVal_bool {b:Bool}:za5 (.bool b)= .bool b:=rfl
@[go_sem] theorem ofVal_int {k:IntKind} {n:Int}:za5 (.int k n)= .int k n:=rfl
@[go_sem] theorem ofVal_str {s:ByteArray}:za5 (.string s)= .str s.data.toList:=rfl
@[go_sem] theorem ofVal_nilp:za5 (.pointer none)= .nilp:=rfl
@[go_sem] theorem ofVal_nils:za5 (.slice none 0 0)= .sl .full []:=rfl
attribute [go_sem] zn7 zp4 yr3 lenV xr9 zA5 zQ2 evUn zx2 zt2 zv2 zQ1 zF8 zi7 zj5 zt3 zc9 zf7 zi8 zp5 wN xU zJ4 zg9 zk3 zk4 bnd zf6 zc3 zz0 zl1 xo7 zp2 wK xW zp3 zt6 zt1 yf6 zx4 zA3 isK zk9 dem zz7 ye1 envA envK
@[go_sem] theorem evBin_int {op:BinOp} {k:IntKind} {x y:Int} {ek:Nat} {es:Option (List Pk)}:zk2 op ek es (.int k x) (.int k y)=zH4 op k x y:=by simp[zk2]
@[go_sem] theorem evBin_str {op:BinOp} {x y:List UInt8} {ek:Nat} {es:Option (List Pk)}:zk2 op ek es (.str x) (.str y)=zI4 op x y:=rfl
@[go_sem] theorem evBin_bool {op:BinOp} {x y:Bool} {es:Option (List Pk)}:zk2 op 1 es (.bool x) (.bool y)=(match op with| .eql=> .ok (.bool (x==y))| .neq=> .ok (.bool (!(x==y)))|_=> .fail):=rfl
@[go_sem] theorem evBin_ptr {op:BinOp} {i o:Nat} {es:Option (List Pk)}:zk2 op 2 es (.ptr i o) .nilp=(match op with| .eql=> .ok (.bool false)| .neq=> .ok (.bool true)|_=> .fail):=rfl
@[go_sem] theorem evBin_nil {op:BinOp} {es:Option (List Pk)}:zk2 op 2 es .nilp .nilp=(match op with| .eql=> .ok (.bool true)| .neq=> .ok (.bool false)|_=> .fail):=rfl
@[go_sem] theorem evBin_agg {op:BinOp} {ek:Nat} {ks:List Pk} {as bs:List V}:zk2 op ek (some ks) (.agg as) (.agg bs)=(match eqVs ks as bs with|some r=>(match op with| .eql=> .ok (.bool r)| .neq=> .ok (.bool (!r))|_=> .fail)|none=> .fail):=rfl
attribute [go_sem] zH4 zI4 eqVs eqPk yP
end
end Go.Vx
namespace Go.Vx
open Go
def noK:V→Bool
 | .ptr _ _| .sl (.app _) _| .agg _| .tup _| .fn _ _| .lsv _ _ _ _ _| .lsp _ _ _ _ _| .bsv _ _ _ _| .mp _=>false
 |_=>true
def noC:V→Bool
 | .fn _ caps=>caps.all noK
 |v=>noK v
def noA:V→Bool
 | .agg cs=>cs.all noC
 |v=>noC v
def noS:V→Bool
 | .tup vs=>vs.all noA
 |v=>noA v
def ltK (n:Nat):V→Bool
 | .ptr id _=>decide (id<n)
 | .sl (.app id) _=>decide (id<n)
 | .lsv id _ _ _ _=>decide (id<n)
 | .lsp id _ _ _ _=>decide (id<n)
 | .bsv id _ _ _=>decide (id<n)
 | .mp id=>decide (id<n)
 | .agg _| .tup _| .fn _ _=>false
 |_=>true
def ltC (n:Nat):V→Bool
 | .fn _ caps=>caps.all (ltK n)
 |v=>ltK n v
def ltA (n:Nat):V→Bool
 | .agg cs=>cs.all (ltC n)
 |v=>ltC n v
def ltS (n:Nat):V→Bool
 | .tup vs=>vs.all (ltA n)
 |v=>ltA n v
def ltOb (n:Nat):Ob→Bool
 | .box cells=>cells.all (ltC n)
 | .lst rows _=>rows.all fun r=>r.all (ltC n)
 | .mp kvs _ _=>kvs.all (ltA n)
 | .it m _ _ _=>(match m with|some id=>decide (id<n)|none=>true)
 |_=>true
theorem wY {α:Type} {f:α→α} {p:α→Bool} (h: ∀a,p a=true→f a=a): ∀{l:List α},l.all p=true→l.map f=l
 | [],_=>rfl
 |a::l,q=>by
  simp only[List.all_cons,Bool.and_eq_true]at q
  rw[List.map_cons,h a q.1,wY h q.2]
section
variable {ρ:Nat→Nat}
theorem xk8 {v:V} (h:noK v=true):renK ρ v=v:=by
 cases v with
 |sl g rows=>cases g<;>first|rfl|simp[noK]at h
 |_=>first|rfl|simp[noK]at h
theorem zK7 {v:V} (h:noC v=true):renC ρ v=v:=by
 cases v with
 |fn f caps=>simp only[renC];rw[wY (fun _=>xk8) h]
 |sl g rows=>cases g<;>first|rfl|simp[noC,noK]at h
 |_=>first|rfl|simp[noC,noK]at h
theorem yj4 {v:V} (h:noA v=true):renA ρ v=v:=by
 cases v with
 |agg cs=>simp only[renA];rw[wY (fun _=>zK7) h]
 |fn f caps=>exact zK7 (v:= .fn f caps) h
 |sl g rows=>cases g<;>first|rfl|simp[noA,noC,noK]at h
 |_=>first|rfl|simp[noA,noC,noK]at h
theorem zu0 {v:V} (h:noS v=true):renS ρ v=v:=by
 cases v with
 |tup vs=>simp only[renS];rw[wY (fun _=>yj4) h]
 |agg cs=>exact yj4 (v:= .agg cs) h
 |fn f caps=>exact zK7 (v:= .fn f caps) h
 |sl g rows=>cases g<;>first|rfl|simp[noS,noA,noC,noK]at h
 |_=>first|rfl|simp[noS,noA,noC,noK]at h
variable {n:Nat} (hρ: ∀i,i<n→ρ i=i)
include hρ
theorem zy6 {v:V} (h:ltK n v=true):renK ρ v=v:=by
 cases v with
 |sl g rows=>cases g with
  |app id=>simp only[ltK,decide_eq_true_eq]at h;simp only[renK,hρ id h]
  |_=>rfl
 |ptr id off=>simp only[ltK,decide_eq_true_eq]at h;simp only[renK,hρ id h]
 |lsv id s n lo m=>simp only[ltK,decide_eq_true_eq]at h;simp only[renK,hρ id h]
 |lsp id s n k j=>simp only[ltK,decide_eq_true_eq]at h;simp only[renK,hρ id h]
 |bsv id s off n=>simp only[ltK,decide_eq_true_eq]at h;simp only[renK,hρ id h]
 |mp id=>simp only[ltK,decide_eq_true_eq]at h;simp only[renK,hρ id h]
 |_=>first|rfl|simp[ltK]at h
theorem zc0 {v:V} (h:ltC n v=true):renC ρ v=v:=by
 cases v with
 |fn f caps=>simp only[renC];rw[wY (fun _=>zy6 hρ) h]
 |sl g rows=>have:=zy6 hρ (v:= .sl g rows) h;cases g<;>exact this
 |ptr id off=>exact zy6 hρ (v:= .ptr id off) h
 |lsv id s' n' lo m=>exact zy6 hρ (v:= .lsv id s' n' lo m) h
 |lsp id s' n' k j=>exact zy6 hρ (v:= .lsp id s' n' k j) h
 |bsv id s' off n'=>exact zy6 hρ (v:= .bsv id s' off n') h
 |mp id=>exact zy6 hρ (v:= .mp id) h
 |_=>first|rfl|simp[ltC,ltK]at h
theorem zS5 {v:V} (h:ltA n v=true):renA ρ v=v:=by
 cases v with
 |agg cs=>simp only[renA];rw[wY (fun _=>zc0 hρ) h]
 |fn f caps=>exact zc0 hρ (v:= .fn f caps) h
 |sl g rows=>have:=zc0 hρ (v:= .sl g rows) h;cases g<;>exact this
 |ptr id off=>exact zc0 hρ (v:= .ptr id off) h
 |lsv id s' n' lo m=>exact zc0 hρ (v:= .lsv id s' n' lo m) h
 |lsp id s' n' k j=>exact zc0 hρ (v:= .lsp id s' n' k j) h
 |bsv id s' off n'=>exact zc0 hρ (v:= .bsv id s' off n') h
 |mp id=>exact zc0 hρ (v:= .mp id) h
 |_=>first|rfl|simp[ltA,ltC,ltK]at h
theorem yj5 {v:V} (h:ltS n v=true):renS ρ v=v:=by
 cases v with
 |tup vs=>simp only[renS];rw[wY (fun _=>zS5 hρ) h]
 |agg cs=>exact zS5 hρ (v:= .agg cs) h
 |fn f caps=>exact zc0 hρ (v:= .fn f caps) h
 |sl g rows=>have:=zS5 hρ (v:= .sl g rows) h;cases g<;>exact this
 |ptr id off=>exact zc0 hρ (v:= .ptr id off) h
 |lsv id s' n' lo m=>exact zc0 hρ (v:= .lsv id s' n' lo m) h
 |lsp id s' n' k j=>exact zc0 hρ (v:= .lsp id s' n' k j) h
 |bsv id s' off n'=>exact zc0 hρ (v:= .bsv id s' off n') h
 |mp id=>exact zc0 hρ (v:= .mp id) h
 |_=>first|rfl|simp[ltS,ltA,ltC,ltK]at h
theorem zg3 {o:Ob} (h:ltOb n o=true):yF ρ o=o:=by
 cases o with
 |box cells=>simp only[yF];rw[wY (fun _=>zc0 hρ) h]
 |lst rows s=>simp only[yF];rw[wY (fun _ q=>wY (fun _=>zc0 hρ) q) h]
 |mp kvs borns clk=>simp only[yF];rw[wY (fun _=>zS5 hρ) h]
 |it m since seen last=>
  cases m with
  |none=>rfl
  |some id=>simp only[ltOb,decide_eq_true_eq]at h;simp only[yF,Option.map_some,hρ id h]
 |_=>rfl
end
theorem zc7 {n N i:Nat} (h:i<n):ren (List.range n) N i=i:=by
 rw[wG (by simpa using h)];simp
theorem ye0 {n0:Nat} {s loc:St} (hok:s.all (ltOb s.length)=true) (hn:n0≤s.length):Picks n0 (List.range s.length) (s++loc) s:=by
 refine⟨by simp,List.nodup_range,fun i j o hi ho=> ?_,fun i hi=> ?_⟩
 ·obtain⟨hl,hj⟩:=List.getElem?_eq_some_iff.1 hi
  simp at hj hl
  subst hj
  have:ltOb s.length o=true:=by
   rw[List.all_eq_true]at hok
   exact hok o (List.mem_iff_getElem?.2 ⟨i,ho⟩)
  rw[zg3 (fun k hk=>zc7 hk) this,List.getElem?_append_left hl]
  exact ho
 ·rw[List.getElem?_range (by omega)]
theorem zA {ρ:Nat→Nat} {v:V} (h:noS v=true):argS ρ v v:= .inl (zu0 h).symm
theorem zW {ρ:Nat→Nat} {g:Tag} {rows:List (List V)}:argS ρ (.sl .ro rows) (.sl g rows):= .inr (.inr (.inl ⟨g,rows,rfl,rfl⟩))
theorem zm4 {n N:Nat} {v:V} (h:ltS n v=true):argS (ren (List.range n) N) v v:= .inl (yj5 (fun _ hk=>zc7 hk) h).symm
theorem zG {ρ:Nat→Nat}: ∀{l:List V},l.all noS=true→All2 (argS ρ) l l
 | [],_=>trivial
 |v::l,h=>by
  simp only[List.all_cons,Bool.and_eq_true]at h
  exact⟨zA h.1,zG h.2⟩
section
variable {P:Program} {c:Ctx} {nt:Nat} {e:Env} {σ:St} {K:KT} {Q:QT} {d:Option Tmp} {R:V→St→Prop} {rs:List ResultVar} {n0:Nat}
def wret (v:Option V) (n0:Nat) (R:V→St→Prop) (σ:St):Prop:= ∃x,v=some x∧VRet n0 R x σ
@[go_sem] theorem retQ_ret:retQ P rs n0 R .ret e σ=wret (retV P rs e σ) n0 R σ:=id rfl
@[go_sem] theorem retQ_normal:retQ P rs n0 R .normal e σ=wret (retV P rs e σ) n0 R σ:=id rfl
attribute [go_sem] retV ye5 zI2
theorem zQ {v r:V} (hr:argS (ren [] σ.length) r v) (hR:R r []):wret (some v) 0 R σ:=
 ⟨v,rfl,v,σ,[],[],r,.refl _ _,⟨rfl,List.nodup_nil,fun i j o h=>by simp at h,fun i h=>absurd h (Nat.not_lt_zero i)⟩,hr,hR⟩
theorem zO9 (k:Nat) {v r:V} (hk:(σ.take k).length=k) (hok:(σ.take k).all (ltOb k)=true) (hn:n0≤k) (hr:argS (ren (List.range k) σ.length) r v) (hR:R r (σ.take k)):wret (some v) n0 R σ:=by
 have h1:σ.take k++σ.drop k=σ:=List.take_append_drop k σ
 have hp:=ye0 (n0:=n0) (s:=σ.take k) (loc:=σ.drop k) (by rw[hk];exact hok) (by rw[hk];exact hn)
 rw[h1,hk]at hp
 exact⟨v,rfl,v,σ,_,σ.take k,r,.refl _ _,hp,hr,hR⟩
theorem yu7 (id s:Nat) (rows:List (List V)) {v:V} (hσ:σ[id]? =some (.lst rows s)) (hp:wO rows=true) (h:wret (some (frzS id rows v)) n0 R (zk5 id rows σ)):wret (some v) n0 R σ:=by
 obtain⟨x,hx,v1,σ1,pick,σ',r,hf,hr⟩:=h
 cases hx
 exact⟨v,rfl,v1,σ1,pick,σ',r,.step id s rows hσ hp hf,hr⟩
abbrev Pure (P:Program) (f:FuncId) (args:List V) (v:V):Prop:=VCalls P f args [] fun r s=>r=v∧s= []
theorem zD {f:FuncId} {caps args args':List V} {v:V} {KV:V→St→Prop} (hc:Pure P f args' v) (hb:zK P f=true) (hargs:All2 (argS (ren [] σ.length)) args' (args++caps)) (hn:noS v=true) (hk:KV v σ):
  wVC P c (.fn f caps) args σ KV fx:=by
 refine VC.of hc hb [] List.nodup_nil rfl (fun i j o h=>by simp at h) hargs ?_
 rintro r σ' ⟨rfl,rfl⟩ _
 rw[zu0 hn]
 have:xV [] σ []=σ:=by simp[xV,mset]
 rw[this];exact hk
theorem xm7 {f:FuncId} {caps args args':List V} {o:Ob} {i:Nat} {KV:V→St→Prop} {R:V→St→Prop} (hc:VCalls P f args' [o] R) (hb:zK P f=true) (ho:σ[i]? =some o) (hlt:ltOb 0 o=true)
  (hargs:All2 (argS (ren [i] σ.length)) args' (args++caps)) (hk: ∀r σ',R r σ'→1≤σ'.length→KV (renS (ren [i] σ.length) r) (xV [i] σ σ')):wVC P c (.fn f caps) args σ KV fx:=by
 refine VC.of hc hb [i] (by simp) rfl (fun k j o' h1 h2=> ?_) hargs hk
 cases k with
 |zero=>
  simp at h1 h2
  subst h1;subst h2
  rw[zg3 (n:=0) (fun _ h=>absurd h (Nat.not_lt_zero _)) hlt];exact ho
 |succ k=>simp at h1
end
end Go.Vx
