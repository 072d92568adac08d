/-
  Contracts of functions that the claimed statement reaches, each proved over trees (the library Vx); used by the theorem at the end of the claim.
  Conditions: as each theorem states them.
-/
import Derived.Test.YtajjjghohakniaaGreatLAU
import Derived.Test.YtajjjghohakniaaGreatLAS
import Derived.Test.YtajjjghohakniaaGreatLAQ
import Derived.Test.YtajjjghohakniaaGreatLAO
namespace Go.Proofs.YtajjjghohakniaaGreat
open Go Go.Vx
set_option maxRecDepth 100000
def zv5 (e:GExpr):Bool:=e.kind==3&&e.s== [65,78,68]&&e.args.length==2
def bfs:Nat→List GExpr→List GExpr→List GExpr
 |0,_,l=>l
 |_+1,[],l=>l
 |n+1,e::q,l=>if zv5 e=true then bfs n (q++e.args) l else bfs n q (l++ [e])
def zj4 (st:GStmt):List GExpr:=if st.filtered=true then bfs 4096 [st.where_] []else []
theorem yb9 (l:List GExpr):uni 6 (l.map GExpr.row):=zS7 fun e=>by rw[GExpr.row_eq];rfl
theorem zP8 (st:GStmt):Pure Tryz.prog 53 [.agg st.row] (.sl .ro ((zj4 st).map GExpr.row)):=by
 generalize hM:zj4 st=M
 have ret: ∀(r:List GExpr) (g:Tag) (σ:St),r=M→wret (some (.sl g (r.map GExpr.row))) 0 (fun r s=>r= .sl .ro (M.map GExpr.row)∧s= []) σ:=fun r g σ h=>by subst h;exact zQ zW ⟨rfl,rfl⟩
 unfold zj4 at hM
 refine VCalls.introV 0 Tryz.func53 Tryz.ntmps53 Tryz.results53 rfl rfl (Nat.le_of_ble_eq_true rfl) fun c hc hb=> ?_
 refine zC6 26 (by decide) ?_
 refine zC ?_
 simp[go_sem]
 by_cases hf:st.filtered=true
 rotate_left
 ·have hf':st.filtered=false:=by simpa using hf
  rw[if_neg hf]at hM
  simp[go_sem,hf']
  exact ret [] _ _ hM
 rw[if_pos hf]at hM
 simp[go_sem,hf]
 refine xd9 4 6 [st.where_.row] (by decide) (yb9 [st.where_]) (by simp[go_sem]) ?_
 refine zu4 3 6 (by decide) (by simp[go_sem]) ?_
 refine zN (S:=Nat×List GExpr×List GExpr) [3,4,5,100026] (fun u=> [.sl (.app 1) (u.2.2.map GExpr.row),.sl (.app 0) (u.2.1.map GExpr.row),.int .i64 u.1,.tup []]) (fun u=> [.app u.2.1.length 6,.app u.2.2.length 6]) (fun u=>4096 - u.1)
  (fun u=>u.1≤4096∧u.2.1.length≤1+u.1∧u.2.2.length≤u.1∧bfs (4096 - u.1) u.2.1 u.2.2=M) hc hb (0,[st.where_],[]) ⟨Nat.zero_le _,by simp,by simp,hM⟩ ?_ ?_
 ·exact zw7 [1,2] (by decide) rfl ⟨by simp[go_sem,yF],by simp[go_sem,yF],trivial⟩ ⟨.inl (by simp[go_sem,renS,renA,renC,renK,ren]),.inl (by simp[go_sem,renS,renA,renC,renK,ren]),zA rfl,zA rfl,trivial⟩
 rintro⟨n,q,l⟩ ⟨hn,hql,hll,hinv⟩
 simp only at hn hql hll hinv
 cases q with
 |nil=>
  have hl:l=M:=by rw[←hinv];cases h:4096 - n<;>rfl
  refine zC ?_
  simp[go_sem]
  exact ret l _ _ hl
 |cons e q=>
 by_cases hn2:n<4096
 rotate_left
 ·have hl:l=M:=by rw[←hinv,show 4096 - n=0 by omega];rfl
  have hd:decide ((n:Int)<4096)=false:=decide_eq_false (by omega)
  refine zC ?_
  simp[go_sem,hd]
  exact ret l _ _ hl
 have hd:decide ((n:Int)<4096)=true:=decide_eq_true (by omega)
 rw[show 4096 - n=(4096 - (n+1))+1 by omega,bfs]at hinv
 have ei:IntKind.i64.wrap ((n:Int)+1)=((n+1:Nat):Int):=by rw[i64_id (by omega) (by omega)];omega
 refine zC ?_
 simp[go_sem,hd]
 refine zO (by omega) ?_
 simp[go_sem]
 by_cases hA:zv5 e=true
 ·rw[if_pos hA]at hinv
  have hA':=hA
  unfold zv5 at hA'
  simp only[Bool.and_eq_true,beq_iff_eq]at hA'
  obtain⟨⟨q1,q2⟩,q3⟩:=hA'
  simp[go_sem,q1,q2,q3]
  refine zO ⟨by simp at hql;omega,yb9 _⟩ ?_
  simp[go_sem,ei]
  refine zP (n+1,q++e.args,l) ⟨by simp only;omega,⟨by simp only;omega,by simp at hql⊢;omega,by simp only;omega,hinv⟩, ?_⟩
  exact zw7 [3,1] (by decide) rfl ⟨by simp[go_sem,yF,q3],by simp[go_sem,yF],trivial⟩ ⟨.inl (by simp[go_sem,renS,renA,renC,renK,ren]),.inl (by simp[go_sem,renS,renA,renC,renK,ren]),zA rfl,zA rfl,trivial⟩
 ·have hA':(e.kind==3&&e.s== [65,78,68]&&e.args.length==2)=false:=by simpa[zv5]using hA
  rw[if_neg hA]at hinv
  have key:(e.kind==3)=false∨((e.kind==3)=true∧(e.s== [65,78,68])=false)∨((e.kind==3)=true∧(e.s== [65,78,68])=true∧((e.args.length:Int)==2)=false):=by
   revert hA'
   have e3:((e.args.length:Int)==2)=(e.args.length==2):=by
    rw[Bool.eq_iff_iff];simp;omega
   rw[e3]
   cases e.kind==3<;>cases e.s== [65,78,68]<;>cases e.args.length==2<;>simp
  refine key.elim (fun q1=> ?_) fun key=>key.elim (fun q1=> ?_) fun q1=> ?_
  all_goals simp[go_sem,q1]
  all_goals refine zO ⟨by omega,xD rfl⟩ ?_
  all_goals simp[go_sem,ei]
  all_goals refine zP (n+1,q,l++ [e]) ⟨by simp only;omega,⟨by simp only;omega,by simp at hql⊢;omega,by simp;omega,hinv⟩, ?_⟩
  all_goals exact zw7 [3,1] (by decide) rfl ⟨by simp[go_sem,yF],by simp[go_sem,yF],trivial⟩ ⟨.inl (by simp[go_sem,renS,renA,renC,renK,ren]),.inl (by simp[go_sem,renS,renA,renC,renK,ren]),zA rfl,zA rfl,trivial⟩
def yH0:V:= .tup [.str [],.agg [.int .i64 0,.int .i64 0,.str []],.bool false]
def xS (e:GExpr) (name:List UInt8):Option (List UInt8×GValue):=
 match e.kind==3,e.args with
 |true,[a,b]=>
  if b.kind=2 then(if b.s=name∧a.kind=1∧a.v.kind≠0 then some (zR2 e.s,a.v)else none)
  else if a.kind=2∧a.s=name∧b.kind=1∧b.v.kind≠0 then some (e.s,b.v)else none
 |_,_=>none
def cutV:Option (List UInt8×GValue)→V
 |none=>yH0
 |some (s,v)=> .tup [.str s,.agg v.row,.bool true]
theorem ya8 (e:GExpr) (name:List UInt8):Pure Tryz.prog 54 [.agg e.row,.str name] (cutV (xS e name)):=by
 generalize hM:xS e name=M
 have no: ∀(σ:St),none=M→wret (some yH0) 0 (fun r s=>r=cutV M∧s= []) σ:=fun σ h=>by subst h;exact zQ (zA rfl) ⟨rfl,rfl⟩
 have yes: ∀(s:List UInt8) (v:GValue) (σ:St),some (s,v)=M→wret (some (.tup [.str s,.agg v.row,.bool true])) 0 (fun r s=>r=cutV M∧s= []) σ:=fun s v σ h=>by subst h;exact zQ (zA rfl) ⟨rfl,rfl⟩
 unfold xS at hM
 refine VCalls.intro 0 Tryz.func54 Tryz.ntmps54 Tryz.results54 rfl rfl (Nat.le_of_ble_eq_true rfl) fun c hc hb=>zJ ?_
 simp[go_sem]
 by_cases q1:e.kind=3
 rotate_left
 ·have q1':(e.kind !=3)=true:=by simpa using q1
  have q1'':(e.kind==3)=false:=by simpa using q1
  simp only[q1'']at hM
  simp[go_sem,q1']
  exact no _ hM
 have q1':(e.kind !=3)=false:=by simpa using q1
 have q1'':(e.kind==3)=true:=by simpa using q1
 simp only[q1'']at hM
 obtain⟨k,hk⟩: ∃k,e.kind=k:=⟨_,rfl⟩
 simp[go_sem,q1']
 by_cases q2:e.args.length=2
 rotate_left
 ·have q2':((e.args.length:Int) !=2)=true:=by simpa using (show ¬(e.args.length:Int)=2 by omega)
  simp[go_sem,q2']
  refine no _ ?_
  rw[←hM]
  split
  ·rename_i h;rw[h]at q2;exact absurd rfl q2
  ·rfl
 have q2':((e.args.length:Int) !=2)=false:=by simpa using (show(e.args.length:Int)=2 by omega)
 simp[go_sem,q2']
 obtain⟨a,b,hab⟩: ∃a b,e.args= [a,b]:=by
  match e.args,q2 with
  | [a,b],_=>exact⟨a,b,rfl⟩
 simp only[hab]at hM
 refine xu3 [(12,3),(13,3)] 1 10 (by simp) (by kernel_rfl) (by rw[hc];exact Nat.zero_le _) hb (by kernel_rfl) rfl (by repeat' (first|exact LtE.env0|refine LtE.upd ?_ (by simp[ltS,ltA,ltC,ltK]))) (by simp only[List.take_succ_cons,List.take_zero];exact rfl) (by simp only[List.drop_succ_cons,List.drop_zero];exact rfl) ?_
 simp[go_sem,hab]
 refine⟨by repeat' (first|exact LtE.env0|refine LtE.upd ?_ (by simp[ltS,ltA,ltC,ltK])), ?_⟩
 by_cases q3:b.kind=2
 ·have q3':(b.kind==2)=true:=by simpa using q3
  rw[if_pos q3]at hM
  simp[go_sem,q3']
  refine xC [(0,2),(1,2),(3,0),(4,3),(5,3)] 2 (by simp) (by kernel_rfl) (by kernel_rfl) ?_
  simp[go_sem]
  refine zT (xd1 e.s) Tryz.callB106 (fun _=>zG rfl) rfl ?_
  have q4:(b.kind !=2)=false:=by simpa using q3
  simp[go_sem,q4]
  repeat' (first
   |(refine yT (fun q=> ?_) (fun q=> ?_)<;>simp[go_sem,q])
   |(refine zS (fun q=> ?_) (fun q=> ?_)<;>simp[go_sem,q])
   |(refine xC [(2,2),(4,3)] 1 (by simp) (by kernel_rfl) (by kernel_rfl) ?_;simp[go_sem]))
  all_goals first|exact no _ (by rw[←hM];simp_all)|exact yes _ _ _ (by rw[←hM];simp_all)
 ·have q3':(b.kind==2)=false:=by simpa using q3
  rw[if_neg q3]at hM
  simp[go_sem,q3']
  repeat' (first
   |(refine yT (fun q=> ?_) (fun q=> ?_)<;>simp[go_sem,q])
   |(refine zS (fun q=> ?_) (fun q=> ?_)<;>simp[go_sem,q])
   |(refine xC [(2,2),(4,3)] 1 (by simp) (by kernel_rfl) (by kernel_rfl) ?_;simp[go_sem]))
  all_goals first|exact no _ (by rw[←hM];simp_all)|exact yes _ _ _ (by rw[←hM];simp_all)
end Go.Proofs.YtajjjghohakniaaGreat
namespace Go.Proofs.YtajjjghohakniaaGreat.R
open Go Go.Vx
set_option maxRecDepth 100000
def bys (l:List UInt8):V:= .sl .ro (zR l)
theorem yE (l:List UInt8):(zR l).length=l.length:=by simp[zR]
theorem zq9 (l:List UInt8):uni 1 (zR l):=fun r hr=>by
 obtain⟨x,_,rfl⟩:=List.mem_map.1 hr
 rfl
def byA (l:List UInt8):V:= .sl (.app 0) (zR l)
def stA (l:List UInt8):St:= [.app l.length 1]
abbrev maxB:Nat:=1000000000
theorem xt4 (b:List UInt8) (n:Nat) (hb:b.length≤maxB) (hn:n≤maxB):VCalls Tryz.prog 188 [bys b,.int .i64 n] [] fun r s=>r=byA b∧s=stA b:=by
 refine VCalls.intro 0 Tryz.func188 Tryz.ntmps188 Tryz.results188 rfl rfl (Nat.le_of_ble_eq_true rfl) fun c hc hb=>zJ ?_
 simp[go_sem,bys,yE]
 have e1:IntKind.i64.wrap ((b.length:Int)+n)=((b.length+n:Nat):Int):=by rw[i64_id (by unfold maxB at*;omega) (by unfold maxB at*;omega)];omega
 simp[go_sem,e1]
 refine zO ⟨by omega,by unfold maxB at*;omega⟩ ?_
 simp[go_sem,yE]
 refine zO ⟨by unfold maxB at*;omega,zq9 b⟩ ?_
 simp[go_sem]
 exact zO9 1 rfl rfl (by omega) (zm4 rfl) ⟨rfl,rfl⟩
structure VarS where
 out:List UInt8
 v:Nat
theorem u64_id {n:Int} (h:0≤n) (h2:n≤18446744073709551615):IntKind.u64.wrap n=n:=by
 unfold IntKind.wrap
 simp[IntKind.bits,IntKind.signed]
 omega
theorem zO7 (n:Nat):IntKind.u8.wrap (n:Int)=((UInt8.ofNat n).toNat:Int):=by
 unfold IntKind.wrap
 simp[IntKind.bits,IntKind.signed]
end Go.Proofs.YtajjjghohakniaaGreat.R
namespace Go.Proofs.YtajjjghohakniaaGreat.R
open Go Go.Vx
set_option maxRecDepth 100000
end Go.Proofs.YtajjjghohakniaaGreat.R
namespace Go.Vx
open Go
end Go.Vx
namespace Go.Proofs.YtajjjghohakniaaGreat.R
open Go Go.Vx
set_option maxRecDepth 100000
def mayF (v:GValue):Bool:=
 if v.kind=0 then decide (v.n=0)&&v.s.isEmpty else if v.kind=1 then(decide (v.n=0)||decide (v.n=1))&&v.s.isEmpty
 else if v.kind=2 then v.s.isEmpty else if v.kind=3 then decide (v.n=0)&&decide (v.s.length≤64)else false
theorem yS0 (v:GValue):Pure Tryz.prog 130 [.agg v.row] (.bool (mayF v)):=by
 obtain⟨k,n,s⟩:=v
 refine VCalls.intro 0 Tryz.func130 Tryz.ntmps130 Tryz.results130 rfl rfl (Nat.le_of_ble_eq_true rfl) fun c hc hb=>zJ ?_
 simp[go_sem]
 have yes: ∀(r b:Bool) (σ:St),r=b→wret (some (.bool r)) 0 (fun r s=>r= .bool b∧s= []) σ:=fun r b σ h=>by subst h;exact zQ (zA rfl) ⟨rfl,rfl⟩
 repeat' (first|(refine yT (fun q=> ?_) (fun q=> ?_)<;>simp[go_sem,q])|(refine zS (fun q=> ?_) (fun q=> ?_)<;>simp[go_sem,q])|(refine yes _ _ _ ?_))
 all_goals simp_all[mayF]
 omega
theorem zK5 (v:GValue):Pure Tryz.prog 90 [.agg v.row] (.bool (mayF v)):=by
 obtain⟨k,n,s⟩:=v
 refine VCalls.intro 0 Tryz.func90 Tryz.ntmps90 Tryz.results90 rfl rfl (Nat.le_of_ble_eq_true rfl) fun c hc hb=>zJ ?_
 simp[go_sem]
 have yes: ∀(r b:Bool) (σ:St),r=b→wret (some (.bool r)) 0 (fun r s=>r= .bool b∧s= []) σ:=fun r b σ h=>by subst h;exact zQ (zA rfl) ⟨rfl,rfl⟩
 repeat' (first|(refine yT (fun q=> ?_) (fun q=> ?_)<;>simp[go_sem,q])|(refine zS (fun q=> ?_) (fun q=> ?_)<;>simp[go_sem,q])|(refine yes _ _ _ ?_))
 all_goals simp_all[mayF]
 omega
theorem zq2 {ρ:Nat→Nat} {g:Tag} {rows rows':List (List V)} (h:rows'=rows):argS ρ (.sl .ro rows') (.sl g rows):=by subst h;exact zW
theorem zm5 {b l:List UInt8} {g:Tag} {rows:List (List V)} {σ:St} (h:zR (b++l)=rows):wret (some (.sl g rows)) 0 (fun r s=>r=bys (b++l)∧s= []) σ:=by subst h;exact zQ zW ⟨rfl,rfl⟩
end Go.Proofs.YtajjjghohakniaaGreat.R
namespace Go.Proofs.YtajjjghohakniaaGreat.R
open Go Go.Vx
set_option maxRecDepth 100000
structure LightR (row:List GValue):Prop where
 len:row.length≤20
 s: ∀v∈row,v.s.length≤500
 ok: ∀v∈row,v.ok
end Go.Proofs.YtajjjghohakniaaGreat.R
namespace Go.Proofs.YtajjjghohakniaaGreat.R
open Go Go.Vx
set_option maxRecDepth 100000
def yf2:List UInt8→Nat→Nat→Nat×Nat×Int
 | [],_,_=>(0,0,2)
 |c::rest,i,v=>if i=9∧1<c.toNat then(0,0,5)else if c.toNat<128 then(if c.toNat=0∧0<i then(0,0,9)else(v+c.toNat%128*128^i,i+1,0))else yf2 rest (i+1) (v+c.toNat%128*128^i)
end Go.Proofs.YtajjjghohakniaaGreat.R
namespace Go.Proofs.YtajjjghohakniaaGreat.R
open Go Go.Vx
set_option maxRecDepth 100000
end Go.Proofs.YtajjjghohakniaaGreat.R
namespace Go.Proofs.YtajjjghohakniaaGreat.R
open Go Go.Vx
set_option maxRecDepth 100000
def yR2 (b:List UInt8) (r:Nat×Nat×Int):List UInt8×Nat×Int:=
 if r.2.2≠0 then([],0,r.2.2)else if 1048576<r.1 then([],0,3)else if b.length - r.2.1<r.1 then([],0,2)else((b.take (r.2.1+r.1)).drop r.2.1,r.2.1+r.1,0)
def yR1 (b:List UInt8):List UInt8×Nat×Int:=yR2 b (yf2 b 0 0)
end Go.Proofs.YtajjjghohakniaaGreat.R
namespace Go.Proofs.YtajjjghohakniaaGreat.R
open Go Go.Vx
set_option maxRecDepth 100000
def zagF (u:Nat):Int:=if u%2=0 then((u/2:Nat):Int)else -((u/2:Nat):Int) - 1
structure TakeR where
 v:GValue
 n:Nat
 e:Int
def TakeR.V (r:TakeR):V:= .tup [.agg r.v.row,.int .i64 r.n,.int .i64 r.e]
def v0:GValue:=⟨0,0,[]⟩
def yR0 (b:List UInt8):TakeR:=
 if b.length<2 then⟨v0,0,2⟩else if 1<(b.getD 1 0).toNat then⟨v0,0,9⟩else⟨⟨1,(b.getD 1 0).toNat,[]⟩,2,0⟩
end Go.Proofs.YtajjjghohakniaaGreat.R
namespace Go.Proofs.YtajjjghohakniaaGreat.R
open Go Go.Vx
set_option maxRecDepth 100000
def xw5 (k:Nat) (tb:TakeR) (r:Nat×Nat×Int) (t:List UInt8×Nat×Int):TakeR:=
 if k=0 then⟨v0,1,0⟩
 else if k=1 then tb
 else if k=2 then(if r.2.2≠0 then⟨v0,0,r.2.2⟩else⟨⟨2,zagF r.1,[]⟩,1+r.2.1,0⟩)
 else if k=3 then(if t.2.2≠0 then⟨v0,0,t.2.2⟩else if 64<t.1.length then⟨v0,0,3⟩else⟨⟨3,0,t.1⟩,1+t.2.1,0⟩)
 else⟨v0,0,9⟩
def xd0:List UInt8→TakeR
 | []=>⟨v0,0,2⟩
 |c::rest=>xw5 c.toNat (yR0 (c::rest)) (yf2 rest 0 0) (yR1 rest)
end Go.Proofs.YtajjjghohakniaaGreat.R
namespace Go.Proofs.YtajjjghohakniaaGreat.R
open Go Go.Vx
set_option maxRecDepth 100000
end Go.Proofs.YtajjjghohakniaaGreat.R
namespace Go.Proofs.YtajjjghohakniaaGreat.R
open Go Go.Vx
set_option maxRecDepth 100000
theorem is_w (regs tabs:List (List V)) (t:Int):Pure Tryz.prog 105 [.agg [.sl .ro regs,.sl .ro tabs],.int .i64 t] (.bool (decide (0≤t)&&decide (t<tabs.length))):=by
 refine VCalls.intro 0 Tryz.func105 Tryz.ntmps105 Tryz.results105 rfl rfl (Nat.le_of_ble_eq_true rfl) fun c hc hb=>zJ ?_
 simp[go_sem]
 repeat' (first|(refine yT (fun q=> ?_) (fun q=> ?_)<;>simp[go_sem,q])|(refine zS (fun q=> ?_) (fun q=> ?_)<;>simp[go_sem,q]))
 all_goals exact zQ (zA rfl) ⟨by simp_all,rfl⟩
theorem yI2 (regs tabs:List (List V)) (t:Int):Pure Tryz.prog 36 [.agg [.sl .ro regs,.sl .ro tabs],.int .i64 t] (.bool (decide (0≤t)&&decide (t<tabs.length))):=by
 refine VCalls.intro 0 Tryz.func36 Tryz.ntmps36 Tryz.results36 rfl rfl (Nat.le_of_ble_eq_true rfl) fun c hc hb=>zJ ?_
 simp[go_sem]
 repeat' (first|(refine yT (fun q=> ?_) (fun q=> ?_)<;>simp[go_sem,q])|(refine zS (fun q=> ?_) (fun q=> ?_)<;>simp[go_sem,q]))
 all_goals exact zQ (zA rfl) ⟨by simp_all,rfl⟩
end Go.Proofs.YtajjjghohakniaaGreat.R
namespace Go.Proofs.YtajjjghohakniaaGreat.R
open Go Go.Vx
set_option maxRecDepth 100000
theorem yv3 (row:List GValue) (hok: ∀v∈row,v.ok) (_hml:row.length≤maxLen):VCalls Tryz.prog 14 [.sl .ro (row.map GValue.row)] [] fun r s=>yv2 (LightR row) r∧s= []:=by
 refine VCalls.introV 0 Tryz.func14 Tryz.ntmps14 Tryz.results14 rfl rfl (Nat.le_of_ble_eq_true rfl) fun c hc hb=> ?_
 refine zC ?_
 simp[go_sem]
 refine zS (fun h=> ?_) (fun h=> ?_)
 ·simp[go_sem]
  exact zQ (zA rfl) ⟨yW5,rfl⟩
 have h:row.length≤20:=by have:=of_decide_eq_false h;omega
 simp[go_sem]
 refine zN (S:=Nat) [0,3] (fun i=> [.sl .ro (row.map GValue.row),.int .i64 i]) (fun _=> []) (fun i=>row.length - i) (fun i=>i≤row.length∧ ∀v∈row.take i,v.s.length≤500) hc hb 0 ⟨Nat.zero_le _,by simp⟩ ?_ ?_
 ·exact at_0 rfl (zI (by simp[go_sem]) rfl)
 rintro i ⟨hi,ha⟩
 refine zC ?_
 simp[go_sem]
 refine zS (fun q=> ?_) (fun q=> ?_)
 ·have q:i<row.length:=by simpa using q
  obtain⟨v,hv⟩: ∃v,row[i]=v:=⟨_,rfl⟩
  have ei:=zU q (by omega)
  simp[go_sem,q,hv]
  refine zS (fun w=> ?_) (fun w=> ?_)
  ·simp[go_sem]
   exact zQ (zA rfl) ⟨yW5,rfl⟩
  ·have w:v.s.length≤500:=by have:=of_decide_eq_false w;omega
   have ha2: ∀x∈row.take (i+1),x.s.length≤500:=fun x hx=>by
    rw[List.take_succ_eq_append_getElem q,List.mem_append]at hx
    rcases hx with hx|hx
    ·exact ha x hx
    ·simp at hx;rw[hx,hv];exact w
   simp[go_sem,ei]
   exact zP (i+1) ⟨by omega,⟨q,ha2⟩,at_0 rfl (zI (by simp[go_sem]) rfl)⟩
 ·have q:i=row.length:=by
   have: ¬i<row.length:=by simpa using q
   omega
  have ha3: ∀v∈row,v.s.length≤500:=fun v hv=>ha v (by rw[q,List.take_length];exact hv)
  simp[go_sem]
  exact zQ (zA rfl) ⟨xi2 ⟨h,ha3,hok⟩,rfl⟩
end Go.Proofs.YtajjjghohakniaaGreat.R
namespace Go.Proofs.YtajjjghohakniaaGreat.R
open Go Go.Vx
set_option maxRecDepth 100000
def rowG:Nat→List UInt8→Option (List GValue)
 |0,b=>if b= []then some []else none
 |n+1,b=>if(xd0 b).e=0 then(rowG n (b.drop (xd0 b).n)).map ((xd0 b).v:: ·)else none
def rowR (o:Option (List GValue)):List GValue×Int:=match o with
 |some l=>(l,0)
 |none=>([],9)
def rowC (nc:Nat) (data:List UInt8):List GValue×Int:=
 if(yf2 data 0 0).2.2=0∧(yf2 data 0 0).1=nc then rowR (rowG nc (data.drop (yf2 data 0 0).2.1))else([],9)
def rowF (ts:List GTable) (table:Int) (data:List UInt8):List GValue×Int:=
 if h:0≤table∧table<ts.length then rowC (ts[table.toNat]'(by omega)).cols.length data else([],1)
end Go.Proofs.YtajjjghohakniaaGreat.R
namespace Go.Proofs.YtajjjghohakniaaGreat.R
open Go Go.Vx
set_option maxRecDepth 100000
end Go.Proofs.YtajjjghohakniaaGreat.R
namespace Go.Proofs.YtajjjghohakniaaGreat.R
open Go Go.Vx
set_option maxRecDepth 100000
def be (v:Nat):Nat→List UInt8
 |0=> []
 |k+1=>UInt8.ofNat (v/256^k)::be v k
theorem zH0 (v:Nat): ∀k,(be v k).length=k
 |0=>rfl
 |k+1=>by simp[be,zH0 v k]
theorem za3 (a b:UInt8) (l m:List UInt8):Op.bytesLess (a::l) (b::m)=if a.toNat<b.toNat then true else if b.toNat<a.toNat then false else Op.bytesLess l m:=by
 rw[Op.bytesLess]
 simp only[UInt8.lt_iff_toNat_lt]
 by_cases h1:a.toNat<b.toNat
 ·simp[h1]
 ·by_cases h2:b.toNat<a.toNat
  ·have:a≠b:=fun h=>by subst h;omega
   simp[h1,h2,this]
  ·have:a=b:=UInt8.toNat_inj.1 (by omega)
   simp[this]
theorem yD7 (u w:Nat): ∀k,Op.bytesLess (be u k) (be w k)=decide (u%256^k<w%256^k)
 |0=>by simp[be,Op.bytesLess,Nat.mod_one]
 |k+1=>by
  have hk:0<256^k:=Nat.pow_pos (by decide)
  rw[be,be,za3,yD7 u w k,Nat.pow_succ,Nat.mod_mul,Nat.mod_mul,UInt8.toNat_ofNat',UInt8.toNat_ofNat']
  have h1:=Nat.mod_lt u hk
  have h2:=Nat.mod_lt w hk
  generalize u%256^k=x at*
  generalize w%256^k=y at*
  have e: ∀z:Nat,z%2^8=z%256:=fun z=>rfl
  rw[e,e]
  generalize u/256^k%256=a
  generalize w/256^k%256=b
  generalize 256^k=m at*
  by_cases ha:a<b
  ·have:(a+1)*m≤b*m:=Nat.mul_le_mul_right m ha
   rw[Nat.add_mul]at this
   rw[if_pos ha,decide_eq_true]
   rw[Nat.mul_comm m a,Nat.mul_comm m b]
   omega
  ·rw[if_neg ha]
   by_cases hb:b<a
   ·have:(b+1)*m≤a*m:=Nat.mul_le_mul_right m hb
    rw[Nat.add_mul]at this
    rw[if_pos hb,eq_comm,decide_eq_false]
    rw[Nat.mul_comm m a,Nat.mul_comm m b]
    omega
   ·have:a=b:=by omega
    subst this
    rw[if_neg hb]
    congr 1
    exact propext ⟨fun h=>by omega,fun h=>by omega⟩
def esc:List UInt8→List UInt8
 | []=> []
 |c::s=>if c=0 then 0::255::esc s else c::esc s
theorem zR9: ∀s,(esc s).length≤2*s.length
 | []=>by simp[esc]
 |c::s=>by
  have:=zR9 s
  unfold esc
  split<;>simp<;>omega
theorem zU9: ∀a b,esc (a++b)=esc a++esc b
 | [],b=>rfl
 |c::a,b=>by
  have:=zU9 a b
  rw[List.cons_append,esc,esc]
  split<;>simp[this]
theorem yn9: ∀a b:List UInt8,Op.bytesLess (esc a++ [0,1]) (esc b++ [0,1])=Op.bytesLess a b
 | [],[]=>by decide
 | [],d::b=>by
  rw[esc,esc]
  by_cases h:d=0
  ·subst h
   rw[if_pos rfl]
   simp[za3,Op.bytesLess]
  ·rw[if_neg h]
   have hd:0<d.toNat:=by
    rcases Nat.eq_zero_or_pos d.toNat with q|q
    ·exact absurd (UInt8.toNat_inj.1 (by simpa using q)) h
    ·exact q
   simp[za3,Op.bytesLess,hd]
 |c::a,[]=>by
  rw[esc,esc]
  by_cases h:c=0
  ·subst h
   rw[if_pos rfl]
   simp[za3,Op.bytesLess]
  ·rw[if_neg h]
   have hd:0<c.toNat:=by
    rcases Nat.eq_zero_or_pos c.toNat with q|q
    ·exact absurd (UInt8.toNat_inj.1 (by simpa using q)) h
    ·exact q
   simp[za3,Op.bytesLess,hd]
 |c::a,d::b=>by
  have ih:=yn9 a b
  rw[esc,esc,za3]
  by_cases hc:c=0
  ·subst hc
   by_cases hd:d=0
   ·subst hd
    simp[za3,ih]
   ·have hd2:0<d.toNat:=by
     rcases Nat.eq_zero_or_pos d.toNat with q|q
     ·exact absurd (UInt8.toNat_inj.1 (by simpa using q)) hd
     ·exact q
    simp[za3,hd,hd2]
  ·have hc2:0<c.toNat:=by
    rcases Nat.eq_zero_or_pos c.toNat with q|q
    ·exact absurd (UInt8.toNat_inj.1 (by simpa using q)) hc
    ·exact q
   by_cases hd:d=0
   ·subst hd
    simp[za3,hc,hc2]
   ·simp[za3,hc,hd,ih]
def keyF (v:GValue):List UInt8:=
 if mayF v=true then
  UInt8.ofNat v.kind.toNat::(if v.kind=1 then [UInt8.ofNat v.n.toNat]else if v.kind=2 then be (v.n+9223372036854775808).toNat 8 else if v.kind=3 then esc v.s++ [0,1]else [])
 else []
theorem yp3 {v:GValue}:(keyF v).length≤2*v.s.length+10:=by
 have h:=zR9 v.s
 have h2:=zH0 (v.n+9223372036854775808).toNat 8
 unfold keyF
 (repeat' split)<;>simp<;>omega
end Go.Proofs.YtajjjghohakniaaGreat.R
namespace Go.Proofs.YtajjjghohakniaaGreat.R
open Go Go.Vx
set_option maxRecDepth 100000
theorem xw9 (a:Nat) (h:a<2^64):a^^^2^63=(2^63+a)%2^64:=by
 apply Nat.eq_of_testBit_eq
 intro j
 rw[Nat.testBit_xor,Nat.testBit_two_pow,Nat.testBit_mod_two_pow]
 rcases Nat.lt_trichotomy j 63 with h1|h1|h1
 ·rw[Nat.testBit_two_pow_add_gt h1]
  simp[show j<64 by omega,show ¬63=j by omega]
 ·subst h1
  rw[Nat.testBit_two_pow_add_eq]
  simp
 ·rw[Nat.testBit_lt_two_pow (Nat.lt_of_lt_of_le h (Nat.pow_le_pow_right (by decide) (by omega)))]
  simp[show ¬j<64 by omega,show ¬63=j by omega]
theorem xk4 {n:Int} (h1: -9223372036854775808≤n) (h2:n≤9223372036854775807):zz4 .xor .u64 (IntKind.u64.wrap n) 9223372036854775808=(((n+9223372036854775808).toNat:Nat):Int):=by
 obtain⟨a,ha,hlt⟩: ∃a:Nat,IntKind.u64.wrap n=(a:Int)∧(a:Int)=n%18446744073709551616:=by
  unfold IntKind.wrap
  simp[IntKind.bits,IntKind.signed]
  exact⟨(n%18446744073709551616).toNat,by omega,by omega⟩
 have hl:a<2^64:=by omega
 show IntKind.u64.wrap ((BitVec.ofInt 64 (IntKind.u64.wrap n)^^^BitVec.ofInt 64 ((9223372036854775808:Nat):Int)).toNat:Int)=_
 rw[ha,BitVec.ofInt_natCast,BitVec.ofInt_natCast,BitVec.toNat_xor,BitVec.toNat_ofNat,BitVec.toNat_ofNat,Nat.mod_eq_of_lt hl,show 9223372036854775808%2^64=2^63 by decide,xw9 a hl]
 unfold IntKind.wrap
 simp[IntKind.bits,IntKind.signed]
 omega
theorem xf7 (n:Int) (hn:i64R n):Pure Tryz.prog 152 [.int .i64 n] (.int .u64 (n+9223372036854775808).toNat):=by
 have e:=xk4 hn.1 hn.2
 refine VCalls.intro 0 Tryz.func152 Tryz.ntmps152 Tryz.results152 rfl rfl (Nat.le_of_ble_eq_true rfl) fun c hc hb=>zJ ?_
 simp[go_sem,e]
 exact zQ (zA rfl) ⟨rfl,rfl⟩
theorem yA1 (n:Int) (hn:i64R n):Pure Tryz.prog 142 [.int .i64 n] (.int .u64 (n+9223372036854775808).toNat):=by
 unfold i64R at hn
 refine VCalls.intro 0 Tryz.func142 Tryz.ntmps142 Tryz.results142 rfl rfl (Nat.le_of_ble_eq_true rfl) fun c hc hb=>zJ ?_
 simp[go_sem]
 refine zS (fun q=> ?_) (fun q=> ?_)
 ·have q:0≤n:=by simpa using q
  have e1:IntKind.u64.wrap n=n:=u64_id (by omega) (by omega)
  have e2:IntKind.u64.wrap (9223372036854775808+n)=((n+9223372036854775808).toNat:Int):=by rw[u64_id (by omega) (by omega)];omega
  simp[go_sem,e1,e2]
  exact zQ (zA rfl) ⟨rfl,rfl⟩
 ·have q:n<0:=by simpa using q
  have e1:IntKind.i64.wrap (n+9223372036854775807)=n+9223372036854775807:=i64_id (by omega) (by omega)
  have e2:IntKind.i64.wrap (n+9223372036854775807+1)=n+9223372036854775807+1:=i64_id (by omega) (by omega)
  have e3:IntKind.u64.wrap (n+9223372036854775807+1)=((n+9223372036854775808).toNat:Int):=by rw[u64_id (by omega) (by omega)];omega
  simp[go_sem,e1,e2,e3]
  exact zQ (zA rfl) ⟨rfl,rfl⟩
theorem xw6 (n:Int):IntKind.u8.wrap n<256:=by
 unfold IntKind.wrap
 simp[IntKind.bits,IntKind.signed]
 omega
theorem xt8 (l:List UInt8) (h:l.all (fun c=>decide (c.toNat≤8))=true) (i:Nat):(l[i]?.getD 0).toNat≤8:=by
 rcases Nat.lt_or_ge i l.length with q|q
 ·rw[List.getElem?_eq_getElem q]
  simpa using List.all_eq_true.1 h _ (List.getElem_mem q)
 ·rw[List.getElem?_eq_none q];decide
theorem yp6 {n:Int} (h0:0≤n) (h:n≤64): ∃m:Nat,V.int .i64 n= .int .i64 m∧m≤64:=⟨n.toNat,by congr 1;omega,by omega⟩
theorem xf5 (v:Nat) (_hv:v<18446744073709551616):VCalls Tryz.prog 187 [.int .u64 v] [] fun r s=>(∃n:Nat,r= .int .i64 n∧n≤64)∧s= []:=by
 have w48:IntKind.i64.wrap 48=48:=by decide+kernel
 have w40:IntKind.i64.wrap 40=40:=by decide+kernel
 have w16:IntKind.i64.wrap 16=16:=by decide+kernel
 have w8:IntKind.i64.wrap 8=8:=by decide+kernel
 have w56:IntKind.i64.wrap (48+8)=56:=by decide+kernel
 have w24:IntKind.i64.wrap (16+8)=24:=by decide+kernel
 refine VCalls.intro 0 Tryz.func187 Tryz.ntmps187 Tryz.results187 rfl rfl (Nat.le_of_ble_eq_true rfl) fun c hc hb=>zJ ?_
 simp[go_sem]
 repeat' (refine zS (fun q=> ?_) (fun q=> ?_)<;>simp[go_sem])
 all_goals
  refine zO (xw6 _) ?_
  generalize hx:UInt8.toNat (Option.getD _ _)=x
  have h8:x≤8:=hx▸xt8 _ (by decide+kernel) _
  clear hx
  have e8:IntKind.i64.wrap (x:Int)=x:=i64_id (by omega) (by omega)
  simp[go_sem,e8]
 all_goals
  try simp only[w48,w40,w16,w8,w56,w24]
  first
  |exact zQ (zA rfl) ⟨yp6 (by omega) (by omega),rfl⟩
  |(rw[i64_id (by omega) (by omega)]
    exact zQ (zA rfl) ⟨yp6 (by omega) (by omega),rfl⟩)
theorem xh4 (v k:Nat) (_hk:k≤7):IntKind.u8.wrap ((v:Int).fdiv (2^(8*k)))=((UInt8.ofNat (v/256^k)).toNat:Int):=by
 have e:(v:Int).fdiv (2^(8*k))=((v/256^k:Nat):Int):=by
  rw[Int.fdiv_eq_ediv_of_nonneg _ (by exact Int.le_of_lt (Int.pow_pos (by decide)))]
  rw[show(2:Int)^(8*k)=((256^k:Nat):Int) by rw[Int.pow_mul];simp]
  rw[Int.natCast_ediv]
 rw[e,zO7]
theorem xu9 (b:List UInt8) (v:Nat) (hb0:b.length≤maxB) (hv:v<18446744073709551616):Pure Tryz.prog 151 [bys b,.int .u64 v,.int .i64 8] (.tup [bys (b++be v 8),.int .i64 0]):=by
 refine VCalls.introV 0 Tryz.func151 Tryz.ntmps151 Tryz.results151 rfl rfl (Nat.le_of_ble_eq_true rfl) fun c hc hb=> ?_
 refine zC ?_
 simp[go_sem,bys]
 refine yK0 (R:=fun r=> ∃n:Nat,r= .int .i64 n∧n≤64) (xf5 v hv) Tryz.callB187 (zG rfl) (fun r h=>by obtain⟨b,rfl,_⟩:=h;rfl) ?_
 rintro r ⟨n,rfl,hn⟩
 have e64:IntKind.i64.wrap 64=64:=by decide+kernel
 simp[go_sem,e64]
 refine zS (fun q=>absurd q (by simp;omega)) (fun q=> ?_)
 simp[go_sem]
 refine xd7 (xt4 b 8 hb0 (by decide)) Tryz.callB188 (zG rfl) ?_
 rintro r s ⟨rfl,rfl⟩
 simp[go_sem,byA,stA]
 have ew: ∀k:Nat,k≤8→IntKind.i64.wrap (8*(k:Int) - 8)=8*(k:Int) - 8:=fun k h=>i64_id (by omega) (by omega)
 have e56:IntKind.i64.wrap (8*IntKind.i64.wrap 7)=56:=by decide+kernel
 refine zN (S:=Nat×List UInt8) [1,8,9] (fun u=> [.int .u64 v,byA u.2,.int .i64 (8*(u.1:Int) - 8)]) (fun u=>stA u.2) (fun u=>u.1) (fun u=>u.1≤8∧u.2++be v u.1=b++be v 8) hc hb (8,b) ⟨Nat.le_refl _,rfl⟩ ?_ ?_
 ·exact at_n 1 (by simp[stA]) rfl rfl (Nat.zero_le _) (zE (by simp[go_sem,byA]) rfl)
 rintro⟨k,out⟩ ⟨hk,hout⟩
 simp only at hk hout
 have hol:out.length+k=b.length+8:=by
  have:=congrArg List.length hout
  simpa[zH0]using this
 refine zC ?_
 simp[go_sem,byA,stA]
 refine zS (fun q=> ?_) (fun q=> ?_)
 ·obtain⟨j,rfl⟩: ∃j,k=j+1:=⟨k - 1,by simp at q;omega⟩
  have e1:IntKind.u64.wrap (8*((j+1:Nat):Int) - 8)=((8*j:Nat):Int):=by rw[u64_id (by omega) (by omega)];omega
  have e2:IntKind.i64.wrap (8*((j+1:Nat):Int) - 8 - 8)=8*(j:Int) - 8:=by rw[i64_id (by omega) (by omega)];omega
  have e3:=xh4 v j (by omega)
  simp[go_sem]at e1 e2
  simp[go_sem,e1]
  refine zO (by omega) ?_
  have e4:min (8*(j:Int)).toNat 64=8*j:=by omega
  simp[go_sem,e4,e3]
  refine zO ⟨yE out,by rw[yE];unfold maxB at hb0;omega,xD rfl⟩ ?_
  simp[go_sem,e2]
  rw[be]at hout
  refine zP (j,out++ [UInt8.ofNat (v/256^j)]) ⟨by simp only;omega,⟨by simp only;omega,by simpa using hout⟩,at_n 1 (by simp) rfl rfl (Nat.zero_le _) (zE (by simp[go_sem,zR]) rfl)⟩
 ·have:k=0:=by simp at q;omega
  subst this
  rw[show be v 0= [] from rfl,List.append_nil]at hout
  simp[go_sem]
  rw[←hout]
  exact zQ (zI9 (vs':= [bys out,.int .i64 0]) ⟨yg3,zI8 rfl,trivial⟩) ⟨rfl,rfl⟩
end Go.Proofs.YtajjjghohakniaaGreat.R
namespace Go.Proofs.YtajjjghohakniaaGreat.R
open Go Go.Vx
set_option maxRecDepth 100000
def putX (v k:Nat):List (List V):=List.replicate (8 - k) [.int .u8 0]++zR (be v k)
theorem xa6 {v k:Nat} (h:k≤8):(putX v k).length=8:=by simp[putX,yE,zH0];omega
theorem xa7 {v k:Nat} (h:k+1≤8):(putX v k).set (7 - k) [.int .u8 (UInt8.ofNat (v/256^k)).toNat]=putX v (k+1):=by
 unfold putX
 rw[be,show(8 - k)=(8 - (k+1))+1 by omega,List.replicate_succ',List.append_assoc,List.set_append_right _ _ (by simp)]
 rw[show 7 - k - (List.replicate (8 - (k+1)) [V.int IntKind.u8 0]).length=0 by simp]
 rfl
def isB (r:List V):Prop:= ∃x,r= [.int .u8 x]
theorem yz7 (v k:Nat): ∀r∈putX v k,isB r:=fun r hr=>by
 unfold putX at hr
 rcases List.mem_append.1 hr with h|h
 ·exact⟨0,(List.mem_replicate.1 h).2⟩
 ·obtain⟨x,_,rfl⟩:=List.mem_map.1 h
  exact⟨_,rfl⟩
theorem xo6 {rows:List (List V)} (h: ∀r∈rows,isB r) (n:Nat): [Ob.lst rows 1].all (ltOb n)=true:=by
 simp only[List.all_cons,List.all_nil,Bool.and_true,ltOb,List.all_eq_true]
 intro r hr
 obtain⟨x,rfl⟩:=h r hr
 intro y hy
 cases hy with
 |head=>rfl
 |tail _ h=>cases h
theorem xt2 {rows:List (List V)} (h: ∀r∈rows,isB r):wO rows=true:=by
 simp only[wO,List.all_eq_true]
 intro r hr
 obtain⟨x,rfl⟩:=h r hr
 intro y hy
 cases hy with
 |head=>rfl
 |tail _ h=>cases h
theorem xt3 (v:Nat):putX v 8=zR (be v 8):=by simp[putX]
theorem xb5 (v:Nat) (hv:v<18446744073709551616):Pure Tryz.prog 181 [bys [],.int .u64 v,.int .i64 8] (.tup [bys (be v 8),.int .i64 0]):=by
 refine VCalls.introV 0 Tryz.func181 Tryz.ntmps181 Tryz.results181 rfl rfl (Nat.le_of_ble_eq_true rfl) fun c hc hb=> ?_
 refine zC6 17 (by decide) ?_
 refine zC ?_
 simp[go_sem,bys,zR]
 refine zN (S:=Nat×Nat) [0,1,8,9] (fun u=> [bys [],.int .u64 u.2,.lsv 0 1 8 0 8,.int .i64 (7 - (u.1:Int))]) (fun u=> [.lst (putX v u.1) 1]) (fun u=>8 - u.1) (fun u=>u.1≤8∧u.2=v/256^u.1) hc hb (0,v) ⟨Nat.zero_le _,by simp⟩ ?_ ?_
 ·exact at_n 1 (by simp[putX,be,zR]) rfl (xo6 (yz7 _ _) _) (Nat.zero_le _) (zE (by simp[go_sem,bys,zR]) rfl)
 rintro⟨k,z⟩ ⟨hk,hz⟩
 simp only at hk hz
 have hzl:z≤v:=hz▸Nat.div_le_self _ _
 have hpl:=xa6 (v:=v) hk
 refine zC ?_
 simp[go_sem]
 refine zS (fun q=> ?_) (fun q=> ?_)
 ·have q:k+1≤8:=by simp at q;omega
  have e0:((7:Int) - k).toNat=7 - k:=by omega
  have e1:IntKind.i64.wrap (7 - (k:Int) - 1)=7 - ((k:Int)+1):=by rw[i64_id (by omega) (by omega)];omega
  have e2:IntKind.u64.wrap ((z:Int)/256)=((z/256:Nat):Int):=by rw[u64_id (by omega) (by omega)];omega
  have e3:IntKind.u8.wrap ((z:Int).tmod 256)=((UInt8.ofNat z).toNat:Int):=by
   rw[Int.tmod_eq_emod_of_nonneg (by omega),show(z:Int)%256=((z%256:Nat):Int) by omega,zO7]
   simp
  have hset:=xa7 (v:=v) q
  rw[←hz]at hset
  simp[go_sem]
  refine zO ⟨by omega,by omega⟩ ?_
  have hget: ∀h,(putX v k)[7 - k]'h= [.int .u8 0]:=fun h=>by
   have:(putX v k)[7 - k]? =some [.int .u8 0]:=by
    unfold putX
    rw[List.getElem?_append_left (by simp;omega),List.getElem?_replicate,if_pos (by omega)]
   exact(List.getElem?_eq_some_iff.1 this).2
  simp at hset
  simp[go_sem,hpl,show 7 - k<8 by omega,hget,e1,e2,e3]
  refine zP (k+1,z/256) ⟨by simp only;omega,⟨q,by rw[hz,Nat.pow_succ,Nat.div_div_eq_div_mul]⟩,at_n 1 (by simp[hset]) rfl (xo6 (yz7 _ _) _) (Nat.zero_le _) (zE (by simp[go_sem,bys,zR]) rfl)⟩
 ·have:k=8:=by simp at q;omega
  subst this
  have hz0:z=0:=by rw[hz];exact Nat.div_eq_of_lt (by omega)
  subst hz0
  simp[go_sem,bys,zR]
  refine zO (fun r h=>by cases h) ?_
  have hch:za8 (putX v 8) 0 8=zR (be v 8):=by
   rw[xt3]
   simp[za8,List.take_of_length_le,zH0,zR,dem]
  simp[go_sem,hpl,hch]
  refine zO ⟨xt2 fun r hr=>yz7 v 8 r (List.mem_of_mem_take hr),by rw[yE,zH0];decide,zq9 _⟩ ?_
  simp[go_sem]
  exact zQ (zI9 (vs':= [bys (be v 8),.int .i64 0]) ⟨yg3,zI8 rfl,trivial⟩) ⟨rfl,rfl⟩
theorem xf4 (v:Nat) (hv:v<18446744073709551616):Pure Tryz.prog 141 [.int .u64 v] (bys (be v 8)):=by
 refine VCalls.intro 0 Tryz.func141 Tryz.ntmps141 Tryz.results141 rfl rfl (Nat.le_of_ble_eq_true rfl) fun c hc hb=>zJ ?_
 simp[go_sem]
 refine zD (xb5 v hv) Tryz.callB181 ⟨zq2 rfl,zA rfl,zA rfl,trivial⟩ rfl ?_
 simp[go_sem]
 exact zQ (zA rfl) ⟨rfl,rfl⟩
end Go.Proofs.YtajjjghohakniaaGreat.R
