/-
  Contracts of functions that the claimed statement reaches, each proved over trees (the library Vx); used by the theorem at the end of the claim.
  Conditions: as each theorem states them.
-/
import Derived.Test.YtajjjghohakniaaGreatLAO
import Derived.Test.YtajjjghohakniaaGreatLAQ
namespace Go.Proofs.YtajjjghohakniaaGreat
open Go Go.Vx
set_option maxRecDepth 100000
def zR2 (s:List UInt8):List UInt8:=if s= [60]then [62]else if s= [60,61]then [62,61]else if s= [62]then [60]else if s= [62,61]then [60,61]else s
theorem xd1 (s:List UInt8):Pure Tryz.prog 106 [.str s] (.str (zR2 s)):=by
 generalize hM:zR2 s=M
 have ret: ∀(r:List UInt8) (σ:St),r=M→wret (some (.str r)) 0 (fun r s=>r= .str M∧s= []) σ:=fun r σ h=>by subst h;exact zQ (zA rfl) ⟨rfl,rfl⟩
 unfold zR2 at hM
 refine VCalls.intro 0 Tryz.func106 Tryz.ntmps106 Tryz.results106 rfl rfl (Nat.le_of_ble_eq_true rfl) fun c hc hb=>zJ ?_
 simp[go_sem]
 repeat' (first|(refine yT (fun q=> ?_) (fun q=> ?_)<;>simp[go_sem,q])|(refine zS (fun q=> ?_) (fun q=> ?_)<;>simp[go_sem,q]))
 all_goals exact ret _ _ (by simp_all)
end Go.Proofs.YtajjjghohakniaaGreat
namespace Go.Proofs.YtajjjghohakniaaGreat
open Go Go.Vx
set_option maxRecDepth 100000
def zk6 (s:List UInt8):Bool:=s== [65,78,68]||s== [79,82]||s== [78,79,84]
def ze8 (s:List UInt8):Bool:=s== [43]||s== [45]||s== [42]||s== [47]||s== [37]||s== [78,69,71]
theorem xj0 (s:List UInt8):Pure Tryz.prog 183 [.str s] (.bool (zk6 s)):=by
 generalize hM:zk6 s=M
 have ret: ∀(r:Bool) (σ:St),r=M→wret (some (.bool r)) 0 (fun r s=>r= .bool M∧s= []) σ:=fun r σ h=>by subst h;exact zQ (zA rfl) ⟨rfl,rfl⟩
 unfold zk6 at hM
 refine VCalls.intro 0 Tryz.func183 Tryz.ntmps183 Tryz.results183 rfl rfl (Nat.le_of_ble_eq_true rfl) fun c hc hb=>zJ ?_
 simp[go_sem]
 repeat' (first|(refine yT (fun q=> ?_) (fun q=> ?_)<;>simp[go_sem,q])|(refine zS (fun q=> ?_) (fun q=> ?_)<;>simp[go_sem,q]))
 all_goals exact ret _ _ (by simp_all)
theorem yg4 (s:List UInt8):Pure Tryz.prog 98 [.str s] (.bool (ze8 s)):=by
 generalize hM:ze8 s=M
 have ret: ∀(r:Bool) (σ:St),r=M→wret (some (.bool r)) 0 (fun r s=>r= .bool M∧s= []) σ:=fun r σ h=>by subst h;exact zQ (zA rfl) ⟨rfl,rfl⟩
 unfold ze8 at hM
 refine VCalls.intro 0 Tryz.func98 Tryz.ntmps98 Tryz.results98 rfl rfl (Nat.le_of_ble_eq_true rfl) fun c hc hb=>zJ ?_
 simp[go_sem]
 repeat' (first|(refine yT (fun q=> ?_) (fun q=> ?_)<;>simp[go_sem,q])|(refine zS (fun q=> ?_) (fun q=> ?_)<;>simp[go_sem,q]))
 all_goals exact ret _ _ (by simp_all)
def opsTwo:List (List UInt8):= [[79,82],[65,78,68],[61],[60,62],[60],[60,61],[62],[62,61],[43],[45],[42],[47],[37]]
def opsOne:List (List UInt8):= [[78,79,84],[73,83,78,85,76,76],[78,79,84,78,85,76,76],[78,69,71]]
def zb9 (s:List UInt8):Int:=if opsTwo.contains s=true then 2 else if opsOne.contains s=true then 1 else 0
theorem xp6 (s:List UInt8):Pure Tryz.prog 182 [.str s] (.int .i64 (zb9 s)):=by
 generalize hM:zb9 s=M
 have ret: ∀(r:Int) (σ:St),r=M→wret (some (.int .i64 r)) 0 (fun r s=>r= .int .i64 M∧s= []) σ:=fun r σ h=>by subst h;exact zQ (zA rfl) ⟨rfl,rfl⟩
 unfold zb9 opsTwo opsOne at hM
 simp only[List.contains_cons,List.contains_nil]at hM
 refine VCalls.intro 0 Tryz.func182 Tryz.ntmps182 Tryz.results182 rfl rfl (Nat.le_of_ble_eq_true rfl) fun c hc hb=>zJ ?_
 simp[go_sem]
 repeat' (first|(refine yT (fun q=> ?_) (fun q=> ?_)<;>simp[go_sem,q])|(refine zS (fun q=> ?_) (fun q=> ?_)<;>simp[go_sem,q]))
 all_goals exact ret _ _ (by simp_all)
end Go.Proofs.YtajjjghohakniaaGreat
namespace Go.Proofs.YtajjjghohakniaaGreat
open Go Go.Vx
set_option maxRecDepth 100000
def xF (b:Bool):GValue:=⟨1,if b then 1 else 0,[]⟩
theorem zE8 (b:Bool):Pure Tryz.prog 195 [.bool b] (.agg (xF b).row):=by
 refine VCalls.intro 0 Tryz.func195 Tryz.ntmps195 Tryz.results195 rfl rfl (Nat.le_of_ble_eq_true rfl) fun c hc hb=>zJ ?_
 simp[go_sem]
 cases b<;>simp[go_sem]<;>exact zQ (zA rfl) ⟨rfl,rfl⟩
theorem za0 (b:Bool):Pure Tryz.prog 95 [.bool b] (.agg (xF b).row):=by
 refine VCalls.intro 0 Tryz.func95 Tryz.ntmps95 Tryz.results95 rfl rfl (Nat.le_of_ble_eq_true rfl) fun c hc hb=>zJ ?_
 simp[go_sem]
 cases b<;>simp[go_sem]<;>exact zQ (zA rfl) ⟨rfl,rfl⟩
theorem yi7 (v:GValue):Pure Tryz.prog 196 [.agg v.row] (.bool (v.kind==0)):=by
 refine VCalls.intro 0 Tryz.func196 Tryz.ntmps196 Tryz.results196 rfl rfl (Nat.le_of_ble_eq_true rfl) fun c hc hb=>zJ ?_
 simp[go_sem]
 exact zQ (zA rfl) ⟨rfl,rfl⟩
theorem xm1 (v:GValue):Pure Tryz.prog 97 [.agg v.row] (.int .i64 (if v.kind=0 then 2 else v.n)):=by
 refine VCalls.intro 0 Tryz.func97 Tryz.ntmps97 Tryz.results97 rfl rfl (Nat.le_of_ble_eq_true rfl) fun c hc hb=>zJ ?_
 simp[go_sem]
 refine zS (fun q=> ?_) (fun q=> ?_)
 ·have q:v.kind=0:=by simpa using q
  simp[go_sem,q]
  exact zQ (zA rfl) ⟨rfl,rfl⟩
 ·have q: ¬v.kind=0:=by simpa using q
  simp[go_sem,q]
  exact zQ (zA rfl) ⟨rfl,rfl⟩
def zC3 (many such:Bool) (k:Int):Int×Int:=if many=false then(0,9)else if such=false then(0,15)else(k,0)
def yN (r:Int×Int):V:= .tup [.int .i64 r.1,.int .i64 r.2]
theorem yO {r:Int×Int} {a e:Int} {σ:St} (h:r=(a,e)):wret (some (.tup [.int .i64 a,.int .i64 e])) 0 (fun v s=>v=yN r∧s= []) σ:=by
 subst h
 exact zQ (zA rfl) ⟨rfl,rfl⟩
theorem yk3 (many such:Bool) (k:Int):Pure Tryz.prog 219 [.bool many,.bool such,.int .i64 k] (yN (zC3 many such k)):=by
 refine VCalls.intro 0 Tryz.func219 Tryz.ntmps219 Tryz.results219 rfl rfl (Nat.le_of_ble_eq_true rfl) fun c hc hb=>zJ ?_
 cases many<;>cases such<;>simp[go_sem]<;>exact yO rfl
def allK (l:List Int) (k:Int):Bool:=l.all fun x=>x==k||x==0
theorem yD3 (l:List Int) (k:Int) (hl:l.length≤maxLen):Pure Tryz.prog 220 [.sl .ro (l.map fun n=> [V.int .i64 n]),.int .i64 k] (.bool (allK l k)):=by
 generalize hM:allK l k=M
 have ret: ∀(r:Bool) (σ:St),r=M→wret (some (.bool r)) 0 (fun r s=>r= .bool M∧s= []) σ:=fun r σ h=>by subst h;exact zQ (zA rfl) ⟨rfl,rfl⟩
 unfold allK at hM
 refine VCalls.introV 0 Tryz.func220 Tryz.ntmps220 Tryz.results220 rfl rfl (Nat.le_of_ble_eq_true rfl) fun c hc hb=> ?_
 refine zC ?_
 simp[go_sem]
 refine zN (S:=Nat) [1,7,8,9] (fun i=> [.int .i64 k,.sl .ro (l.map fun n=> [V.int .i64 n]),.int .i64 l.length,.int .i64 i]) (fun _=> []) (fun i=>l.length - i) (fun i=>i≤l.length∧((l.drop i).all fun x=>x==k||x==0)=M) hc hb 0 ⟨Nat.zero_le _,hM⟩ ?_ ?_
 ·exact at_0 rfl (zI (by simp[go_sem]) rfl)
 rintro i ⟨hi,hinv⟩
 by_cases q:i<l.length
 rotate_left
 ·have e:l.drop i= []:=List.drop_eq_nil_of_le (by omega)
  rw[e]at hinv
  refine zC ?_
  simp[go_sem,q]
  exact ret _ _ hinv
 have ei:=zU q (by unfold maxLen at hl;omega)
 obtain⟨r,hr⟩: ∃r,l[i]=r:=⟨_,rfl⟩
 rw[List.drop_eq_getElem_cons q,List.all_cons,hr]at hinv
 refine zC ?_
 simp[go_sem,q,hr]
 by_cases w1:r=k
 ·simp[go_sem,w1,ei]
  rw[w1,beq_self_eq_true,Bool.true_or,Bool.true_and]at hinv
  exact zP (i+1) ⟨by omega,⟨q,hinv⟩,at_0 rfl (zI (by simp[go_sem]) rfl)⟩
 have w1':(r !=k)=true:=by simpa using w1
 by_cases w2:r=0
 ·have w3:(r !=0)=false:=by simp[w2]
  simp[go_sem,w1',w3,ei]
  rw[w2,beq_self_eq_true,Bool.or_true,Bool.true_and]at hinv
  exact zP (i+1) ⟨by omega,⟨q,hinv⟩,at_0 rfl (zI (by simp[go_sem]) rfl)⟩
 have w2':(r !=0)=true:=by simpa using w2
 simp[go_sem,w1',w2']
 exact ret _ _ (by rw[←hinv,show(r==k)=false by simpa using w1,show(r==0)=false by simpa using w2];rfl)
end Go.Proofs.YtajjjghohakniaaGreat
namespace Go.Proofs.YtajjjghohakniaaGreat
open Go Go.Vx
set_option maxRecDepth 100000
def zf2 (s:List UInt8) (l:List Int):Int×Int:=
 if s= [73,83,78,85,76,76]∨s= [78,79,84,78,85,76,76]then zC3 ((l.length:Int)==1) true 1
 else if s= [78,79,84]then zC3 ((l.length:Int)==1) (allK l 1) 1
 else if s= [78,69,71]then zC3 ((l.length:Int)==1) (allK l 2) 2
 else if s= [79,82]∨s= [65,78,68]then zC3 ((l.length:Int)==2) (allK l 1) 1
 else if s= [43]∨s= [45]∨s= [42]∨s= [47]∨s= [37]then zC3 ((l.length:Int)==2) (allK l 2) 2
 else if s= [61]∨s= [60,62]∨s= [60]∨s= [60,61]∨s= [62]∨s= [62,61]then
  zC3 ((l.length:Int)==2) ((l.length:Int)==2&&(l.getD 0 0==l.getD 1 0||(l.getD 0 0==0||l.getD 1 0==0))) 1
 else(0,9)
set_option maxHeartbeats 4000000 in
theorem yr7 (s:List UInt8) (x y:Int):Pure Tryz.prog 194 [.str s,.sl .ro [[.int .i64 x],[.int .i64 y]]] (yN (zf2 s [x,y])):=by
 generalize hM:zf2 s [x,y]=M
 have ret: ∀(r:Int×Int) (σ:St),r=M→wret (some (.tup [.int .i64 r.1,.int .i64 r.2])) 0 (fun r s=>r=yN M∧s= []) σ:=fun r σ h=>by subst h;exact zQ (zA rfl) ⟨rfl,rfl⟩
 unfold zf2 at hM
 have h1:=yD3 [x,y] 1 (by unfold maxLen;simp)
 have h2:=yD3 [x,y] 2 (by unfold maxLen;simp)
 simp only[List.map_cons,List.map_nil]at h1 h2
 generalize allK [x,y] 1=a1 at h1 hM
 generalize allK [x,y] 2=a2 at h2 hM
 simp only[List.getD_cons_zero,List.getD_cons_succ]at hM
 refine VCalls.intro 0 Tryz.func194 Tryz.ntmps194 Tryz.results194 rfl rfl (Nat.le_of_ble_eq_true rfl) fun c hc hb=>zJ ?_
 simp[go_sem]
 repeat' (first
  |(refine zS (fun q=> ?_) (fun q=> ?_)<;>simp[go_sem,q])
  |(refine yT (fun q=> ?_) (fun q=> ?_)<;>simp[go_sem,q])
  |(refine zi5 [(23,0)] 0 rfl (by kernel_rfl) (by kernel_rfl) ?_;simp[go_sem])
  |(refine zD h1 Tryz.callB220 (zG rfl) rfl ?_;simp[go_sem])
  |(refine zD h2 Tryz.callB220 (zG rfl) rfl ?_;simp[go_sem])
  |(refine zD (yk3 _ _ _) Tryz.callB219 (zG rfl) rfl ?_;simp[go_sem,yN])
  |(refine zT (yk3 _ _ _) Tryz.callB219 (fun _=>zG rfl) rfl ?_;simp[go_sem,yN]))
 all_goals first|exact ret _ _ (by simp_all)|exact ret (0,9) _ (by simp_all)
set_option maxHeartbeats 4000000 in
theorem yr8 (s:List UInt8) (l:List Int) (hl:l.length≤maxLen) (hn:((l.length:Int)==2)=false):Pure Tryz.prog 194 [.str s,.sl .ro (l.map fun n=> [V.int .i64 n])] (yN (zf2 s l)):=by
 generalize hM:zf2 s l=M
 have ret: ∀(r:Int×Int) (σ:St),r=M→wret (some (.tup [.int .i64 r.1,.int .i64 r.2])) 0 (fun r s=>r=yN M∧s= []) σ:=fun r σ h=>by subst h;exact zQ (zA rfl) ⟨rfl,rfl⟩
 unfold zf2 at hM
 have h1:=yD3 l 1 hl
 have h2:=yD3 l 2 hl
 generalize allK l 1=a1 at h1 hM
 generalize allK l 2=a2 at h2 hM
 simp only[hn,Bool.false_and]at hM
 refine VCalls.intro 0 Tryz.func194 Tryz.ntmps194 Tryz.results194 rfl rfl (Nat.le_of_ble_eq_true rfl) fun c hc hb=>zJ ?_
 simp[go_sem]
 repeat' (first
  |(refine zS (fun q=> ?_) (fun q=> ?_)<;>simp[go_sem,q,hn])
  |(refine zi5 [(23,0)] 0 rfl (by kernel_rfl) (by kernel_rfl) ?_;simp[go_sem])
  |(refine zD h1 Tryz.callB220 (zG rfl) rfl ?_;simp[go_sem])
  |(refine zD h2 Tryz.callB220 (zG rfl) rfl ?_;simp[go_sem])
  |(refine zD (yk3 _ _ _) Tryz.callB219 (zG rfl) rfl ?_;simp[go_sem,yN])
  |(refine zT (yk3 _ _ _) Tryz.callB219 (fun _=>zG rfl) rfl ?_;simp[go_sem,yN]))
 all_goals first|exact ret _ _ (by simp_all)|exact ret (0,9) _ (by simp_all)
theorem yz5 (s:List UInt8) (l:List Int) (hl:l.length≤maxLen):Pure Tryz.prog 194 [.str s,.sl .ro (l.map fun n=> [V.int .i64 n])] (yN (zf2 s l)):=by
 by_cases h:l.length=2
 ·match l,h with
  | [x,y],_=>exact yr7 s x y
 ·exact yr8 s l hl (by simpa using (show ¬(l.length:Int)=2 by omega))
end Go.Proofs.YtajjjghohakniaaGreat
namespace Go.Proofs.YtajjjghohakniaaGreat
open Go Go.Vx
set_option maxRecDepth 100000
theorem zq2 {ρ:Nat→Nat} {g:Tag} {rows rows':List (List V)} (h:rows'=rows):argS ρ (.sl .ro rows') (.sl g rows):=by subst h;exact zW
theorem yk6 {n:Int} (h:0≤n) (h2:n≤255):IntKind.u8.wrap n=n:=by
 unfold IntKind.wrap
 simp[IntKind.bits,IntKind.signed]
 omega
def yI (c:UInt8):UInt8:=if 97≤c.toNat∧c.toNat≤122 then UInt8.ofNat (c.toNat - 32)else c
def wB (c:UInt8):Bool:=decide (48≤c.toNat∧c.toNat≤57)
def wR (c:UInt8):Bool:=decide (65≤(yI c).toNat∧(yI c).toNat≤90)||decide (c.toNat=95)
theorem yh4 (c:UInt8):Pure Tryz.prog 156 [.int .u8 c.toNat] (.int .u8 (yI c).toNat):=by
 have hc:=c.toNat_lt
 have ret: ∀(r:Int) (σ:St),r=((yI c).toNat:Int)→wret (some (.int .u8 r)) 0 (fun r s=>r= .int .u8 (yI c).toNat∧s= []) σ:=fun r σ h=>by subst h;exact zQ (zA rfl) ⟨rfl,rfl⟩
 unfold yI at ret⊢
 obtain⟨n,hn⟩: ∃n,c.toNat=n:=⟨_,rfl⟩
 have hof:n≤255→(UInt8.ofNat (n - 32)).toNat=n - 32:=fun h=>by
  rw[UInt8.toNat_ofNat'];exact Nat.mod_eq_of_lt (by omega)
 rw[hn]at hc ret⊢
 refine VCalls.intro 0 Tryz.func156 Tryz.ntmps156 Tryz.results156 rfl rfl (Nat.le_of_ble_eq_true rfl) fun c hc hb=>zJ ?_
 simp[go_sem]
 refine yT (fun q=> ?_) (fun q=> ?_)
 ·have q1:97≤n:=by simp at q;omega
  simp[go_sem,q]
  refine zS (fun q2=> ?_) (fun q2=> ?_)
  ·have q2:n≤122:=by simp at q2;omega
   have e1:IntKind.u8.wrap ((n:Int) - 97)=(n:Int) - 97:=yk6 (by omega) (by omega)
   have e2:IntKind.u8.wrap ((n:Int) - 97+65)=(n:Int) - 97+65:=yk6 (by omega) (by omega)
   simp[go_sem,e1,e2]
   exact ret _ _ (by rw[if_pos ⟨q1,q2⟩,hof (by omega)];omega)
  ·have q2: ¬n≤122:=by simp at q2;omega
   simp[go_sem]
   exact ret _ _ (by rw[if_neg (fun h=>q2 h.2),hn])
 ·have q1: ¬97≤n:=by simp at q;omega
  simp[go_sem,q]
  exact ret _ _ (by rw[if_neg (fun h=>q1 h.1),hn])
theorem zs1 (c:UInt8):Pure Tryz.prog 155 [.int .u8 c.toNat] (.bool (wB c)):=by
 unfold wB
 generalize c.toNat=n
 generalize hM:decide (48≤n∧n≤57)=M
 have ret: ∀(r:Bool) (σ:St),r=M→wret (some (.bool r)) 0 (fun r s=>r= .bool M∧s= []) σ:=fun r σ h=>by subst h;exact zQ (zA rfl) ⟨rfl,rfl⟩
 refine VCalls.intro 0 Tryz.func155 Tryz.ntmps155 Tryz.results155 rfl rfl (Nat.le_of_ble_eq_true rfl) fun c hc hb=>zJ ?_
 simp[go_sem]
 refine yT (fun q=> ?_) (fun q=> ?_)
 ·simp[go_sem,q]
  refine ret _ _ ?_
  rw[←hM]
  simp at q
  exact decide_eq_decide.2 (by omega)
 ·simp[go_sem,q]
  refine ret _ _ ?_
  rw[←hM]
  simp at q
  exact(decide_eq_false (by omega)).symm
theorem zt9 (c:UInt8):Pure Tryz.prog 154 [.int .u8 c.toNat] (.bool (wR c)):=by
 have hg:=yh4 c
 unfold wR
 revert hg
 generalize (yI c).toNat=g
 generalize c.toNat=n
 generalize hM:(decide (65≤g∧g≤90)||decide (n=95))=M
 have ret: ∀(r:Bool) (σ:St),r=M→wret (some (.bool r)) 0 (fun r s=>r= .bool M∧s= []) σ:=fun r σ h=>by subst h;exact zQ (zA rfl) ⟨rfl,rfl⟩
 have beqd: ∀(a:Nat) (b:Bool),((a:Int)==95)=b→decide (a=95)=b:=fun a b h=>by
  rw[←h]
  by_cases q:a=95
  ·subst q;rfl
  ·rw[decide_eq_false q]
   exact(beq_eq_false_iff_ne.2 (by omega)).symm
 intro hg
 refine VCalls.intro 0 Tryz.func154 Tryz.ntmps154 Tryz.results154 rfl rfl (Nat.le_of_ble_eq_true rfl) fun c hc hb=>zJ ?_
 simp[go_sem]
 refine zD hg Tryz.callB156 (zG rfl) rfl ?_
 simp[go_sem]
 refine yT (fun q=> ?_) (fun q=> ?_)
 ·simp[go_sem,q]
  refine zD hg Tryz.callB156 (zG rfl) rfl ?_
  simp[go_sem]
  simp at q
  refine yT (fun q2=> ?_) (fun q2=> ?_)
  ·have q3: ¬g≤90:=by simp at q2;omega
   simp[go_sem,q2]
   exact ret _ _ (by rw[←hM,decide_eq_false (fun h=>q3 h.2),Bool.false_or];exact(beqd n _ rfl).symm)
  ·have q3:g≤90:=by simp at q2;omega
   simp[go_sem,q2]
   exact ret _ _ (by rw[←hM,decide_eq_true ⟨by omega,q3⟩];rfl)
 ·have q3: ¬65≤g:=by simp at q;omega
  simp[go_sem,q]
  exact ret _ _ (by rw[←hM,decide_eq_false (fun h=>q3 h.1),Bool.false_or];exact(beqd n _ rfl).symm)
def resv:List (List UInt8):= [[65,76,76],[65,78,68],[65,83],[65,83,67],[66,69,84,87,69,69,78],[66,79,85,78,68],[66,89],[67,79,85,78,84],[68,69,76,69,84,69],[68,69,83,67],[69,88,65,67,84],[70,65,76,83,69],[70,82,79,77],[73,78,83,69,82,84],[73,78,84,79],[73,83],[76,73,77,73,84],[78,79,84],[78,85,76,76],[78,79,87],[79,70],[79,82],[79,82,68,69,82],[83,69,76,69,67,84],[83,69,84],[83,85,77],[83,89,83,84,69,77],[84,73,77,69],[84,82,85,69],[85,80,68,65,84,69],[86,65,76,85,69,83],[87,72,69,82,69]]
theorem zK8:resv.length=32:=rfl
theorem yv5:Pure Tryz.prog 185 [] (.sl .ro (resv.map fun s=> [.str s])):=by
 refine VCalls.intro 0 Tryz.func185 Tryz.ntmps185 Tryz.results185 rfl rfl (Nat.le_of_ble_eq_true rfl) fun c hc hb=>zJ ?_
 simp[go_sem]
 exact zQ (zq2 (by simp[resv])) ⟨rfl,rfl⟩
def okC (c:UInt8):Bool:=(wR c||wB c)&&(yI c==c)
def zi6 (s:List UInt8):Bool:=decide (1≤s.length∧s.length≤16)&&(!wB (s.headD 0)&&(s.all okC&& !resv.contains s))
theorem zO1 (s:List UInt8) (hl:s.length≤maxLen):Pure Tryz.prog 147 [.str s] (.bool (zi6 s)):=by
 generalize hM:zi6 s=M
 unfold zi6 at hM
 have ret: ∀(r:Bool) (σ:St),r=M→wret (some (.bool r)) 0 (fun r s=>r= .bool M∧s= []) σ:=fun r σ h=>by subst h;exact zQ (zA rfl) ⟨rfl,rfl⟩
 refine VCalls.introV 0 Tryz.func147 Tryz.ntmps147 Tryz.results147 rfl rfl (Nat.le_of_ble_eq_true rfl) fun c hc hb=> ?_
 refine zC ?_
 simp[go_sem]
 by_cases h0:s.length=0
 ·have h0':((s.length:Int)==0)=true:=by simpa using h0
  simp[go_sem,h0']
  exact ret _ _ (by rw[←hM,decide_eq_false (by omega)];rfl)
 have h0':((s.length:Int)==0)=false:=by simpa using h0
 simp[go_sem,h0']
 by_cases h16:s.length≤16
 rotate_left
 ·have h16':decide (16<(s.length:Int))=true:=by simp;omega
  simp[go_sem,h16']
  exact ret _ _ (by rw[←hM,decide_eq_false (by omega)];rfl)
 have h16':decide (16<(s.length:Int))=false:=by simp;omega
 rw[decide_eq_true ⟨by omega,h16⟩,Bool.true_and]at hM
 have hp:0<s.length:=by omega
 obtain⟨c0,hc0⟩: ∃c,s[0]=c:=⟨_,rfl⟩
 have hhd:s.headD 0=c0:=by
  rw[←hc0]
  cases s with
  |nil=>simp at hp
  |cons x l=>rfl
 rw[hhd]at hM
 simp[go_sem,h16',hp,hc0]
 try (refine zO (by omega) ?_;simp[go_sem])
 refine zD (zs1 c0) Tryz.callB155 (zG rfl) rfl ?_
 simp[go_sem]
 refine zS (fun hd=> ?_) (fun hd=> ?_)
 ·simp[go_sem]
  exact ret _ _ (by rw[←hM,hd];rfl)
 rw[hd,Bool.not_false,Bool.true_and]at hM
 simp[go_sem]
 refine zN (S:=Nat) [0,3] (fun i=> [.str s,.int .i64 i]) (fun _=> []) (fun i=>s.length - i) (fun i=>i≤s.length∧(s.drop i).all okC=s.all okC) hc hb 0 ⟨Nat.zero_le _,rfl⟩ ?_ ?_
 ·exact at_0 rfl (zI (by simp[go_sem]) rfl)
 rintro i ⟨hi,hinv⟩
 refine zC ?_
 simp[go_sem]
 refine zS (fun q=> ?_) (fun q=> ?_)
 ·have q:i<s.length:=by simpa using q
  have ei:=zU q (by omega)
  obtain⟨c1,hc1⟩: ∃c,s[i]=c:=⟨_,rfl⟩
  rw[List.drop_eq_getElem_cons q,List.all_cons,hc1]at hinv
  have hok:okC c1=((wR c1||wB c1)&&(yI c1==c1)):=rfl
  have g1:=zt9 c1
  have g2:=zs1 c1
  have g3:=yh4 c1
  have hne:(((yI c1).toNat:Int) !=(c1.toNat:Int))= !(yI c1==c1):=by
   by_cases h:yI c1=c1
   ·rw[h];simp
   ·have: ¬(yI c1).toNat=c1.toNat:=fun w=>h (UInt8.toNat_inj.1 w)
    rw[beq_eq_false_iff_ne.2 h]
    simp
    omega
  revert hok g1 g2 g3 hne
  generalize wR c1=bl
  generalize wB c1=bd
  generalize hgg:(yI c1==c1)=bg
  generalize yI c1=cg
  intro hok g1 g2 g3 hne
  have bad: ∀(b:Bool) (σ:St),okC c1=false→wret (some (.bool false)) 0 (fun r s=>r= .bool M∧s= []) σ:=fun b σ h=>ret _ _ (by rw[←hM,←hinv,h];rfl)
  have good:okC c1=true→(s.drop (i+1)).all okC=s.all okC:=fun h=>by rw[←hinv,h,Bool.true_and]
  simp[go_sem]
  refine zi5 [(3,0),(9,0),(16,0)] 0 rfl (by kernel_rfl) (by kernel_rfl) ?_
  simp[go_sem,q,hc1]
  refine zT g1 Tryz.callB154 (fun _=>zG rfl) rfl ?_
  simp[go_sem]
  refine(Bool.eq_false_or_eq_true bl).elim (fun w=> ?_) (fun w=> ?_)
  ·simp[go_sem,w,q,hc1]
   refine zT g3 Tryz.callB156 (fun _=>zG rfl) rfl ?_
   simp[go_sem,q,hc1]
   refine zS (fun w3=> ?_) (fun w3=> ?_)
   ·simp[go_sem]
    exact bad true _ (by rw[hok,w];rw[hne]at w3;simpa using w3)
   ·simp[go_sem,ei]
    exact zP (i+1) ⟨by omega,⟨q,good (by rw[hok,w];rw[hne]at w3;simpa using w3)⟩,at_0 rfl (zI (by simp[go_sem]) rfl)⟩
  ·simp[go_sem,w,q,hc1]
   refine zT g2 Tryz.callB155 (fun _=>zG rfl) rfl ?_
   simp[go_sem]
   refine(Bool.eq_false_or_eq_true bd).elim (fun w2=> ?_) (fun w2=> ?_)
   ·simp[go_sem,w2,q,hc1]
    refine zT g3 Tryz.callB156 (fun _=>zG rfl) rfl ?_
    simp[go_sem,q,hc1]
    refine zS (fun w3=> ?_) (fun w3=> ?_)
    ·simp[go_sem]
     exact bad true _ (by rw[hok,w,w2];rw[hne]at w3;simpa using w3)
    ·simp[go_sem,ei]
     exact zP (i+1) ⟨by omega,⟨q,good (by rw[hok,w,w2];rw[hne]at w3;simpa using w3)⟩,at_0 rfl (zI (by simp[go_sem]) rfl)⟩
   ·simp[go_sem,w2]
    exact bad true _ (by rw[hok,w,w2];rfl)
 ·have q:i=s.length:=by
   have: ¬i<s.length:=by simpa using q
   omega
  subst q
  rw[List.drop_length,List.all_nil]at hinv
  rw[←hinv,Bool.true_and]at hM
  simp[go_sem]
  refine zD yv5 Tryz.callB185 (zG rfl) rfl ?_
  simp[go_sem]
  refine zN (S:=Nat) [0,4,5] (fun i=> [.str s,.sl .ro (resv.map fun s=> [.str s]),.int .i64 i]) (fun _=> []) (fun i=>32 - i) (fun i=>i≤32∧(resv.drop i).contains s=resv.contains s) hc hb 0 ⟨Nat.zero_le _,rfl⟩ ?_ ?_
  ·exact at_0 rfl (zI (by simp[go_sem]) rfl)
  rintro i ⟨hi,hinv⟩
  refine zC ?_
  simp[go_sem,zK8]
  refine zS (fun q=> ?_) (fun q=> ?_)
  ·have q:i<32:=by simp at q;omega
   have q2:i<resv.length:=by rw[zK8];exact q
   have ei:=zU q (by omega)
   obtain⟨x,hx⟩: ∃x,resv[i]=x:=⟨_,rfl⟩
   rw[List.drop_eq_getElem_cons q2,List.contains_cons,hx]at hinv
   simp[go_sem,zK8,q,hx]
   try (refine zO (by omega) ?_;simp[go_sem])
   refine zS (fun w=> ?_) (fun w=> ?_)
   ·have w:x=s:=by simpa using w
    simp[go_sem]
    exact ret _ _ (by rw[←hM,←hinv,w];simp)
   ·have w: ¬x=s:=by simpa using w
    have w2:(s==x)=false:=beq_eq_false_iff_ne.2 fun h=>w h.symm
    rw[w2,Bool.false_or]at hinv
    simp[go_sem,ei]
    exact zP (i+1) ⟨by omega,⟨q,hinv⟩,at_0 rfl (zI (by simp[go_sem]) rfl)⟩
  ·have q:i=32:=by simp at q;omega
   subst q
   rw[List.drop_of_length_le (by rw[zK8];exact Nat.le_refl _)]at hinv
   simp[go_sem]
   exact ret _ _ (by rw[←hM,←hinv];rfl)
end Go.Proofs.YtajjjghohakniaaGreat
