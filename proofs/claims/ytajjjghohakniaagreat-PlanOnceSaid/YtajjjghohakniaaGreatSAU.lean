/-
  The document's reader of statements: what it is, and its smallest steps, proved over trees (the library Vx); used by the theorem at the end of the claim.
  Conditions: as each theorem states them.
-/
import Derived.Test.YtajjjghohakniaaGreatSAO
import Derived.Test.YtajjjghohakniaaGreatSAQ
import Derived.Test.YtajjjghohakniaaGreatSAS
namespace Go.Proofs.YtajjjghohakniaaGreat
open Go Go.Vx
set_option maxRecDepth 100000
def turnF (s:List UInt8):List UInt8:=if s= [60]then [62]else if s= [60,61]then [62,61]else if s= [62]then [60]else if s= [62,61]then [60,61]else s
theorem turned_w (s:List UInt8):Pure Tryz.prog 106 [.str s] (.str (turnF s)):=by
 generalize hM:turnF s=M
 have ret: ∀(r:List UInt8) (σ:St),r=M→wret (some (.str r)) 0 (fun r s=>r= .str M∧s= []) σ:=fun r σ h=>by subst h;exact wret_0 (argS_no rfl) ⟨rfl,rfl⟩
 unfold turnF at hM
 refine VCalls.intro 0 Tryz.func106 Tryz.ntmps106 Tryz.results106 rfl rfl (Nat.le_of_ble_eq_true rfl) fun c hc hb=>wcode_of ?_
 simp[go_sem]
 repeat' (first|(refine wgrd_i (fun q=> ?_) (fun q=> ?_)<;>simp[go_sem,q])|(refine wcond_i (fun q=> ?_) (fun q=> ?_)<;>simp[go_sem,q]))
 all_goals exact ret _ _ (by simp_all)
end Go.Proofs.YtajjjghohakniaaGreat
namespace Go.Proofs.YtajjjghohakniaaGreat
open Go Go.Vx
set_option maxRecDepth 100000
def logicF (s:List UInt8):Bool:=s== [65,78,68]||s== [79,82]||s== [78,79,84]
def arithF (s:List UInt8):Bool:=s== [43]||s== [45]||s== [42]||s== [47]||s== [37]||s== [78,69,71]
def opsTwo:List (List UInt8):= [[79,82],[65,78,68],[61],[60,62],[60],[60,61],[62],[62,61],[43],[45],[42],[47],[37]]
def opsOne:List (List UInt8):= [[78,79,84],[73,83,78,85,76,76],[78,79,84,78,85,76,76],[78,69,71]]
def argsF (s:List UInt8):Int:=if opsTwo.contains s=true then 2 else if opsOne.contains s=true then 1 else 0
end Go.Proofs.YtajjjghohakniaaGreat
namespace Go.Proofs.YtajjjghohakniaaGreat
open Go Go.Vx
set_option maxRecDepth 100000
def truthV (b:Bool):GValue:=⟨1,if b then 1 else 0,[]⟩
theorem truth_w (b:Bool):Pure Tryz.prog 195 [.bool b] (.agg (truthV b).row):=by
 refine VCalls.intro 0 Tryz.func195 Tryz.ntmps195 Tryz.results195 rfl rfl (Nat.le_of_ble_eq_true rfl) fun c hc hb=>wcode_of ?_
 simp[go_sem]
 cases b<;>simp[go_sem]<;>exact wret_0 (argS_no rfl) ⟨rfl,rfl⟩
theorem null_w (v:GValue):Pure Tryz.prog 196 [.agg v.row] (.bool (v.kind==0)):=by
 refine VCalls.intro 0 Tryz.func196 Tryz.ntmps196 Tryz.results196 rfl rfl (Nat.le_of_ble_eq_true rfl) fun c hc hb=>wcode_of ?_
 simp[go_sem]
 exact wret_0 (argS_no rfl) ⟨rfl,rfl⟩
def toldF (many such:Bool) (k:Int):Int×Int:=if many=false then(0,9)else if such=false then(0,15)else(k,0)
def pairV (r:Int×Int):V:= .tup [.int .i64 r.1,.int .i64 r.2]
theorem pair_ret {r:Int×Int} {a e:Int} {σ:St} (h:r=(a,e)):wret (some (.tup [.int .i64 a,.int .i64 e])) 0 (fun v s=>v=pairV r∧s= []) σ:=by
 subst h
 exact wret_0 (argS_no rfl) ⟨rfl,rfl⟩
theorem told_w (many such:Bool) (k:Int):Pure Tryz.prog 219 [.bool many,.bool such,.int .i64 k] (pairV (toldF many such k)):=by
 refine VCalls.intro 0 Tryz.func219 Tryz.ntmps219 Tryz.results219 rfl rfl (Nat.le_of_ble_eq_true rfl) fun c hc hb=>wcode_of ?_
 cases many<;>cases such<;>simp[go_sem]<;>exact pair_ret rfl
def allK (l:List Int) (k:Int):Bool:=l.all fun x=>x==k||x==0
theorem all_w (l:List Int) (k:Int) (hl:l.length≤maxLen):Pure Tryz.prog 220 [.sl .ro (l.map fun n=> [V.int .i64 n]),.int .i64 k] (.bool (allK l k)):=by
 generalize hM:allK l k=M
 have ret: ∀(r:Bool) (σ:St),r=M→wret (some (.bool r)) 0 (fun r s=>r= .bool M∧s= []) σ:=fun r σ h=>by subst h;exact wret_0 (argS_no rfl) ⟨rfl,rfl⟩
 unfold allK at hM
 refine VCalls.introV 0 Tryz.func220 Tryz.ntmps220 Tryz.results220 rfl rfl (Nat.le_of_ble_eq_true rfl) fun c hc hb=> ?_
 refine wVW_code ?_
 simp[go_sem]
 refine wVW_while (S:=Nat) [1,7,8,9] (fun i=> [.int .i64 k,.sl .ro (l.map fun n=> [V.int .i64 n]),.int .i64 l.length,.int .i64 i]) (fun _=> []) (fun i=>l.length - i) (fun i=>i≤l.length∧((l.drop i).all fun x=>x==k||x==0)=M) hc hb 0 ⟨Nat.zero_le _,hM⟩ ?_ ?_
 ·exact at_0 rfl (args_eq (by simp[go_sem]) rfl)
 rintro i ⟨hi,hinv⟩
 by_cases q:i<l.length
 rotate_left
 ·have e:l.drop i= []:=List.drop_eq_nil_of_le (by omega)
  rw[e]at hinv
  refine wVW_code ?_
  simp[go_sem,q]
  exact ret _ _ hinv
 have ei:=i64_inc q (by unfold maxLen at hl;omega)
 obtain⟨r,hr⟩: ∃r,l[i]=r:=⟨_,rfl⟩
 rw[List.drop_eq_getElem_cons q,List.all_cons,hr]at hinv
 refine wVW_code ?_
 simp[go_sem,q,hr]
 by_cases w1:r=k
 ·simp[go_sem,w1,ei]
  rw[w1,beq_self_eq_true,Bool.true_or,Bool.true_and]at hinv
  exact next_i (i+1) ⟨by omega,⟨q,hinv⟩,at_0 rfl (args_eq (by simp[go_sem]) rfl)⟩
 have w1':(r !=k)=true:=by simpa using w1
 by_cases w2:r=0
 ·have w3:(r !=0)=false:=by simp[w2]
  simp[go_sem,w1',w3,ei]
  rw[w2,beq_self_eq_true,Bool.or_true,Bool.true_and]at hinv
  exact next_i (i+1) ⟨by omega,⟨q,hinv⟩,at_0 rfl (args_eq (by simp[go_sem]) rfl)⟩
 have w2':(r !=0)=true:=by simpa using w2
 simp[go_sem,w1',w2']
 exact ret _ _ (by rw[←hinv,show(r==k)=false by simpa using w1,show(r==0)=false by simpa using w2];rfl)
end Go.Proofs.YtajjjghohakniaaGreat
namespace Go.Proofs.YtajjjghohakniaaGreat
open Go Go.Vx
set_option maxRecDepth 100000
def operF (s:List UInt8) (l:List Int):Int×Int:=
 if s= [73,83,78,85,76,76]∨s= [78,79,84,78,85,76,76]then toldF ((l.length:Int)==1) true 1
 else if s= [78,79,84]then toldF ((l.length:Int)==1) (allK l 1) 1
 else if s= [78,69,71]then toldF ((l.length:Int)==1) (allK l 2) 2
 else if s= [79,82]∨s= [65,78,68]then toldF ((l.length:Int)==2) (allK l 1) 1
 else if s= [43]∨s= [45]∨s= [42]∨s= [47]∨s= [37]then toldF ((l.length:Int)==2) (allK l 2) 2
 else if s= [61]∨s= [60,62]∨s= [60]∨s= [60,61]∨s= [62]∨s= [62,61]then
  toldF ((l.length:Int)==2) ((l.length:Int)==2&&(l.getD 0 0==l.getD 1 0||(l.getD 0 0==0||l.getD 1 0==0))) 1
 else(0,9)
set_option maxHeartbeats 4000000 in
theorem operator2_w (s:List UInt8) (x y:Int):Pure Tryz.prog 194 [.str s,.sl .ro [[.int .i64 x],[.int .i64 y]]] (pairV (operF s [x,y])):=by
 generalize hM:operF s [x,y]=M
 have ret: ∀(r:Int×Int) (σ:St),r=M→wret (some (.tup [.int .i64 r.1,.int .i64 r.2])) 0 (fun r s=>r=pairV M∧s= []) σ:=fun r σ h=>by subst h;exact wret_0 (argS_no rfl) ⟨rfl,rfl⟩
 unfold operF at hM
 have h1:=all_w [x,y] 1 (by unfold maxLen;simp)
 have h2:=all_w [x,y] 2 (by unfold maxLen;simp)
 simp only[List.map_cons,List.map_nil]at h1 h2
 generalize allK [x,y] 1=a1 at h1 hM
 generalize allK [x,y] 2=a2 at h2 hM
 simp only[List.getD_cons_zero,List.getD_cons_succ]at hM
 refine VCalls.intro 0 Tryz.func194 Tryz.ntmps194 Tryz.results194 rfl rfl (Nat.le_of_ble_eq_true rfl) fun c hc hb=>wcode_of ?_
 simp[go_sem]
 repeat' (first
  |(refine wcond_i (fun q=> ?_) (fun q=> ?_)<;>simp[go_sem,q])
  |(refine wgrd_i (fun q=> ?_) (fun q=> ?_)<;>simp[go_sem,q])
  |(refine wdraw [(23,0)] 0 rfl (by kernel_rfl) (by kernel_rfl) ?_;simp[go_sem])
  |(refine wVC_pure h1 Tryz.callB220 (args_no rfl) rfl ?_;simp[go_sem])
  |(refine wVC_pure h2 Tryz.callB220 (args_no rfl) rfl ?_;simp[go_sem])
  |(refine wVC_pure (told_w _ _ _) Tryz.callB219 (args_no rfl) rfl ?_;simp[go_sem,pairV])
  |(refine wVD_pure (told_w _ _ _) Tryz.callB219 (fun _=>args_no rfl) rfl ?_;simp[go_sem,pairV]))
 all_goals first|exact ret _ _ (by simp_all)|exact ret (0,9) _ (by simp_all)
set_option maxHeartbeats 4000000 in
theorem operatorN_w (s:List UInt8) (l:List Int) (hl:l.length≤maxLen) (hn:((l.length:Int)==2)=false):Pure Tryz.prog 194 [.str s,.sl .ro (l.map fun n=> [V.int .i64 n])] (pairV (operF s l)):=by
 generalize hM:operF s l=M
 have ret: ∀(r:Int×Int) (σ:St),r=M→wret (some (.tup [.int .i64 r.1,.int .i64 r.2])) 0 (fun r s=>r=pairV M∧s= []) σ:=fun r σ h=>by subst h;exact wret_0 (argS_no rfl) ⟨rfl,rfl⟩
 unfold operF at hM
 have h1:=all_w l 1 hl
 have h2:=all_w l 2 hl
 generalize allK l 1=a1 at h1 hM
 generalize allK l 2=a2 at h2 hM
 simp only[hn,Bool.false_and]at hM
 refine VCalls.intro 0 Tryz.func194 Tryz.ntmps194 Tryz.results194 rfl rfl (Nat.le_of_ble_eq_true rfl) fun c hc hb=>wcode_of ?_
 simp[go_sem,hn]
 repeat' (first
  |(refine wcond_i (fun q=> ?_) (fun q=> ?_)<;>simp[go_sem,q,hn])
  |(refine wdraw [(23,0)] 0 rfl (by kernel_rfl) (by kernel_rfl) ?_;simp[go_sem,hn])
  |(refine wVC_pure h1 Tryz.callB220 (args_no rfl) rfl ?_;simp[go_sem,hn])
  |(refine wVC_pure h2 Tryz.callB220 (args_no rfl) rfl ?_;simp[go_sem,hn])
  |(refine wVC_pure (told_w _ _ _) Tryz.callB219 (args_no rfl) rfl ?_;simp[go_sem,pairV])
  |(refine wVD_pure (told_w _ _ _) Tryz.callB219 (fun _=>args_no rfl) rfl ?_;simp[go_sem,pairV]))
 all_goals first|exact ret _ _ (by simp_all)|exact ret (0,9) _ (by simp_all)
theorem operator_w (s:List UInt8) (l:List Int) (hl:l.length≤maxLen):Pure Tryz.prog 194 [.str s,.sl .ro (l.map fun n=> [V.int .i64 n])] (pairV (operF s l)):=by
 by_cases h:l.length=2
 ·match l,h with
  | [x,y],_=>exact operator2_w s x y
 ·exact operatorN_w s l hl (by simpa using (show ¬(l.length:Int)=2 by omega))
end Go.Proofs.YtajjjghohakniaaGreat
namespace Go.Proofs.YtajjjghohakniaaGreat
open Go Go.Vx
set_option maxRecDepth 100000
theorem argS_rows {ρ:Nat→Nat} {g:Tag} {rows rows':List (List V)} (h:rows'=rows):argS ρ (.sl .ro rows') (.sl g rows):=by subst h;exact argS_ro
theorem u8_idn {n:Int} (h:0≤n) (h2:n≤255):IntKind.u8.wrap n=n:=by
 unfold IntKind.wrap
 simp[IntKind.bits,IntKind.signed]
 omega
def greatF (c:UInt8):UInt8:=if 97≤c.toNat∧c.toNat≤122 then UInt8.ofNat (c.toNat - 32)else c
def digitF (c:UInt8):Bool:=decide (48≤c.toNat∧c.toNat≤57)
def letterF (c:UInt8):Bool:=decide (65≤(greatF c).toNat∧(greatF c).toNat≤90)||decide (c.toNat=95)
theorem great_w (c:UInt8):Pure Tryz.prog 156 [.int .u8 c.toNat] (.int .u8 (greatF c).toNat):=by
 have hc:=c.toNat_lt
 have ret: ∀(r:Int) (σ:St),r=((greatF c).toNat:Int)→wret (some (.int .u8 r)) 0 (fun r s=>r= .int .u8 (greatF c).toNat∧s= []) σ:=fun r σ h=>by subst h;exact wret_0 (argS_no rfl) ⟨rfl,rfl⟩
 unfold greatF at ret⊢
 obtain⟨n,hn⟩: ∃n,c.toNat=n:=⟨_,rfl⟩
 have hof:n≤255→(UInt8.ofNat (n - 32)).toNat=n - 32:=fun h=>by
  rw[UInt8.toNat_ofNat'];exact Nat.mod_eq_of_lt (by omega)
 rw[hn]at hc ret⊢
 refine VCalls.intro 0 Tryz.func156 Tryz.ntmps156 Tryz.results156 rfl rfl (Nat.le_of_ble_eq_true rfl) fun c hc hb=>wcode_of ?_
 simp[go_sem]
 refine wgrd_i (fun q=> ?_) (fun q=> ?_)
 ·have q1:97≤n:=by simp at q;omega
  simp[go_sem,q]
  refine wcond_i (fun q2=> ?_) (fun q2=> ?_)
  ·have q2:n≤122:=by simp at q2;omega
   have e1:IntKind.u8.wrap ((n:Int) - 97)=(n:Int) - 97:=u8_idn (by omega) (by omega)
   have e2:IntKind.u8.wrap ((n:Int) - 97+65)=(n:Int) - 97+65:=u8_idn (by omega) (by omega)
   simp[go_sem,e1,e2]
   exact ret _ _ (by rw[if_pos ⟨q1,q2⟩,hof (by omega)];omega)
  ·have q2: ¬n≤122:=by simp at q2;omega
   simp[go_sem]
   exact ret _ _ (by rw[if_neg (fun h=>q2 h.2),hn])
 ·have q1: ¬97≤n:=by simp at q;omega
  simp[go_sem,q]
  exact ret _ _ (by rw[if_neg (fun h=>q1 h.1),hn])
theorem refDigit_w (c:UInt8):Pure Tryz.prog 155 [.int .u8 c.toNat] (.bool (digitF c)):=by
 unfold digitF
 generalize c.toNat=n
 generalize hM:decide (48≤n∧n≤57)=M
 have ret: ∀(r:Bool) (σ:St),r=M→wret (some (.bool r)) 0 (fun r s=>r= .bool M∧s= []) σ:=fun r σ h=>by subst h;exact wret_0 (argS_no rfl) ⟨rfl,rfl⟩
 refine VCalls.intro 0 Tryz.func155 Tryz.ntmps155 Tryz.results155 rfl rfl (Nat.le_of_ble_eq_true rfl) fun c hc hb=>wcode_of ?_
 simp[go_sem]
 refine wgrd_i (fun q=> ?_) (fun q=> ?_)
 ·simp[go_sem,q]
  refine ret _ _ ?_
  rw[←hM]
  simp at q
  exact decide_eq_decide.2 (by omega)
 ·simp[go_sem,q]
  refine ret _ _ ?_
  rw[←hM]
  simp at q
  exact(decide_eq_false (by omega)).symm
theorem refLetter_w (c:UInt8):Pure Tryz.prog 154 [.int .u8 c.toNat] (.bool (letterF c)):=by
 have hg:=great_w c
 unfold letterF
 revert hg
 generalize (greatF c).toNat=g
 generalize c.toNat=n
 generalize hM:(decide (65≤g∧g≤90)||decide (n=95))=M
 have ret: ∀(r:Bool) (σ:St),r=M→wret (some (.bool r)) 0 (fun r s=>r= .bool M∧s= []) σ:=fun r σ h=>by subst h;exact wret_0 (argS_no rfl) ⟨rfl,rfl⟩
 have beqd: ∀(a:Nat) (b:Bool),((a:Int)==95)=b→decide (a=95)=b:=fun a b h=>by
  rw[←h]
  by_cases q:a=95
  ·subst q;rfl
  ·rw[decide_eq_false q]
   exact(beq_eq_false_iff_ne.2 (by omega)).symm
 intro hg
 refine VCalls.intro 0 Tryz.func154 Tryz.ntmps154 Tryz.results154 rfl rfl (Nat.le_of_ble_eq_true rfl) fun c hc hb=>wcode_of ?_
 simp[go_sem]
 refine wVC_pure hg Tryz.callB156 (args_no rfl) rfl ?_
 simp[go_sem]
 refine wgrd_i (fun q=> ?_) (fun q=> ?_)
 ·simp[go_sem,q]
  refine wVC_pure hg Tryz.callB156 (args_no rfl) rfl ?_
  simp[go_sem]
  simp at q
  refine wgrd_i (fun q2=> ?_) (fun q2=> ?_)
  ·have q3: ¬g≤90:=by simp at q2;omega
   simp[go_sem,q2]
   exact ret _ _ (by rw[←hM,decide_eq_false (fun h=>q3 h.2),Bool.false_or];exact(beqd n _ rfl).symm)
  ·have q3:g≤90:=by simp at q2;omega
   simp[go_sem,q2]
   exact ret _ _ (by rw[←hM,decide_eq_true ⟨by omega,q3⟩];rfl)
 ·have q3: ¬65≤g:=by simp at q;omega
  simp[go_sem,q]
  exact ret _ _ (by rw[←hM,decide_eq_false (fun h=>q3 h.1),Bool.false_or];exact(beqd n _ rfl).symm)
def resv:List (List UInt8):= [[65,76,76],[65,78,68],[65,83],[65,83,67],[66,69,84,87,69,69,78],[66,79,85,78,68],[66,89],[67,79,85,78,84],[68,69,76,69,84,69],[68,69,83,67],[69,88,65,67,84],[70,65,76,83,69],[70,82,79,77],[73,78,83,69,82,84],[73,78,84,79],[73,83],[76,73,77,73,84],[78,79,84],[78,85,76,76],[78,79,87],[79,70],[79,82],[79,82,68,69,82],[83,69,76,69,67,84],[83,69,84],[83,85,77],[83,89,83,84,69,77],[84,73,77,69],[84,82,85,69],[85,80,68,65,84,69],[86,65,76,85,69,83],[87,72,69,82,69]]
theorem resv_len:resv.length=32:=rfl
theorem Reserved_w:Pure Tryz.prog 185 [] (.sl .ro (resv.map fun s=> [.str s])):=by
 refine VCalls.intro 0 Tryz.func185 Tryz.ntmps185 Tryz.results185 rfl rfl (Nat.le_of_ble_eq_true rfl) fun c hc hb=>wcode_of ?_
 simp[go_sem]
 exact wret_0 (argS_rows (by simp[resv])) ⟨rfl,rfl⟩
def okC (c:UInt8):Bool:=(letterF c||digitF c)&&(greatF c==c)
def wordF (s:List UInt8):Bool:=decide (1≤s.length∧s.length≤16)&&(!digitF (s.headD 0)&&(s.all okC&& !resv.contains s))
theorem refWord_w (s:List UInt8) (hl:s.length≤maxLen):Pure Tryz.prog 147 [.str s] (.bool (wordF s)):=by
 generalize hM:wordF s=M
 unfold wordF at hM
 have ret: ∀(r:Bool) (σ:St),r=M→wret (some (.bool r)) 0 (fun r s=>r= .bool M∧s= []) σ:=fun r σ h=>by subst h;exact wret_0 (argS_no rfl) ⟨rfl,rfl⟩
 refine VCalls.introV 0 Tryz.func147 Tryz.ntmps147 Tryz.results147 rfl rfl (Nat.le_of_ble_eq_true rfl) fun c hc hb=> ?_
 refine wVW_code ?_
 simp[go_sem]
 by_cases h0:s.length=0
 ·have h0':((s.length:Int)==0)=true:=by simpa using h0
  simp[go_sem,h0']
  exact ret _ _ (by rw[←hM,decide_eq_false (by omega)];rfl)
 have h0':((s.length:Int)==0)=false:=by simpa using h0
 simp[go_sem,h0']
 by_cases h16:s.length≤16
 rotate_left
 ·have h16':decide (16<(s.length:Int))=true:=by simp;omega
  simp[go_sem,h16']
  exact ret _ _ (by rw[←hM,decide_eq_false (by omega)];rfl)
 have h16':decide (16<(s.length:Int))=false:=by simp;omega
 rw[decide_eq_true ⟨by omega,h16⟩,Bool.true_and]at hM
 have hp:0<s.length:=by omega
 obtain⟨c0,hc0⟩: ∃c,s[0]=c:=⟨_,rfl⟩
 have hhd:s.headD 0=c0:=by
  rw[←hc0]
  cases s with
  |nil=>simp at hp
  |cons x l=>rfl
 rw[hhd]at hM
 simp[go_sem,h16',hp,hc0]
 try (refine wneed_i (by omega) ?_;simp[go_sem])
 refine wVC_pure (refDigit_w c0) Tryz.callB155 (args_no rfl) rfl ?_
 simp[go_sem]
 refine wcond_i (fun hd=> ?_) (fun hd=> ?_)
 ·simp[go_sem]
  exact ret _ _ (by rw[←hM,hd];rfl)
 rw[hd,Bool.not_false,Bool.true_and]at hM
 simp[go_sem]
 refine wVW_while (S:=Nat) [0,3] (fun i=> [.str s,.int .i64 i]) (fun _=> []) (fun i=>s.length - i) (fun i=>i≤s.length∧(s.drop i).all okC=s.all okC) hc hb 0 ⟨Nat.zero_le _,rfl⟩ ?_ ?_
 ·exact at_0 rfl (args_eq (by simp[go_sem]) rfl)
 rintro i ⟨hi,hinv⟩
 refine wVW_code ?_
 simp[go_sem]
 refine wcond_i (fun q=> ?_) (fun q=> ?_)
 ·have q:i<s.length:=by simpa using q
  have ei:=i64_inc q (by omega)
  obtain⟨c1,hc1⟩: ∃c,s[i]=c:=⟨_,rfl⟩
  rw[List.drop_eq_getElem_cons q,List.all_cons,hc1]at hinv
  have hok:okC c1=((letterF c1||digitF c1)&&(greatF c1==c1)):=rfl
  have g1:=refLetter_w c1
  have g2:=refDigit_w c1
  have g3:=great_w c1
  have hne:(((greatF c1).toNat:Int) !=(c1.toNat:Int))= !(greatF c1==c1):=by
   by_cases h:greatF c1=c1
   ·rw[h];simp
   ·have: ¬(greatF c1).toNat=c1.toNat:=fun w=>h (UInt8.toNat_inj.1 w)
    rw[beq_eq_false_iff_ne.2 h]
    simp
    omega
  revert hok g1 g2 g3 hne
  generalize letterF c1=bl
  generalize digitF c1=bd
  generalize hgg:(greatF c1==c1)=bg
  generalize greatF c1=cg
  intro hok g1 g2 g3 hne
  have bad: ∀(b:Bool) (σ:St),okC c1=false→wret (some (.bool false)) 0 (fun r s=>r= .bool M∧s= []) σ:=fun b σ h=>ret _ _ (by rw[←hM,←hinv,h];rfl)
  have good:okC c1=true→(s.drop (i+1)).all okC=s.all okC:=fun h=>by rw[←hinv,h,Bool.true_and]
  simp[go_sem]
  refine wdraw [(3,0),(9,0),(16,0)] 0 rfl (by kernel_rfl) (by kernel_rfl) ?_
  simp[go_sem,q,hc1]
  refine wVD_pure g1 Tryz.callB154 (fun _=>args_no rfl) rfl ?_
  simp[go_sem]
  refine(Bool.eq_false_or_eq_true bl).elim (fun w=> ?_) (fun w=> ?_)
  ·simp[go_sem,w,q,hc1]
   refine wVD_pure g3 Tryz.callB156 (fun _=>args_no rfl) rfl ?_
   simp[go_sem,q,hc1]
   refine wcond_i (fun w3=> ?_) (fun w3=> ?_)
   ·simp[go_sem]
    exact bad true _ (by rw[hok,w];rw[hne]at w3;simpa using w3)
   ·simp[go_sem,ei]
    exact next_i (i+1) ⟨by omega,⟨q,good (by rw[hok,w];rw[hne]at w3;simpa using w3)⟩,at_0 rfl (args_eq (by simp[go_sem,ei]) rfl)⟩
  ·simp[go_sem,w,q,hc1]
   refine wVD_pure g2 Tryz.callB155 (fun _=>args_no rfl) rfl ?_
   simp[go_sem]
   refine(Bool.eq_false_or_eq_true bd).elim (fun w2=> ?_) (fun w2=> ?_)
   ·simp[go_sem,w2,q,hc1]
    refine wVD_pure g3 Tryz.callB156 (fun _=>args_no rfl) rfl ?_
    simp[go_sem,q,hc1]
    refine wcond_i (fun w3=> ?_) (fun w3=> ?_)
    ·simp[go_sem]
     exact bad true _ (by rw[hok,w,w2];rw[hne]at w3;simpa using w3)
    ·simp[go_sem,ei]
     exact next_i (i+1) ⟨by omega,⟨q,good (by rw[hok,w,w2];rw[hne]at w3;simpa using w3)⟩,at_0 rfl (args_eq (by simp[go_sem,ei]) rfl)⟩
   ·simp[go_sem,w2]
    exact bad true _ (by rw[hok,w,w2];rfl)
 ·have q:i=s.length:=by
   have: ¬i<s.length:=by simpa using q
   omega
  subst q
  rw[List.drop_length,List.all_nil]at hinv
  rw[←hinv,Bool.true_and]at hM
  simp[go_sem]
  refine wVC_pure Reserved_w Tryz.callB185 (args_no rfl) rfl ?_
  simp[go_sem]
  refine wVW_while (S:=Nat) [0,4,5] (fun i=> [.str s,.sl .ro (resv.map fun s=> [.str s]),.int .i64 i]) (fun _=> []) (fun i=>32 - i) (fun i=>i≤32∧(resv.drop i).contains s=resv.contains s) hc hb 0 ⟨Nat.zero_le _,rfl⟩ ?_ ?_
  ·exact at_0 rfl (args_eq (by simp[go_sem]) rfl)
  rintro i ⟨hi,hinv⟩
  refine wVW_code ?_
  simp[go_sem,resv_len]
  refine wcond_i (fun q=> ?_) (fun q=> ?_)
  ·have q:i<32:=by simp at q;omega
   have q2:i<resv.length:=by rw[resv_len];exact q
   have ei:=i64_inc q (by omega)
   obtain⟨x,hx⟩: ∃x,resv[i]=x:=⟨_,rfl⟩
   rw[List.drop_eq_getElem_cons q2,List.contains_cons,hx]at hinv
   simp[go_sem,resv_len,q,q2,hx]
   try (refine wneed_i (by omega) ?_;simp[go_sem,resv_len,q,q2,hx])
   refine wcond_i (fun w=> ?_) (fun w=> ?_)
   ·have w:x=s:=by simpa using w
    simp[go_sem]
    exact ret _ _ (by rw[←hM,←hinv,w];simp)
   ·have w: ¬x=s:=by simpa using w
    have w2:(s==x)=false:=beq_eq_false_iff_ne.2 fun h=>w h.symm
    rw[w2,Bool.false_or]at hinv
    simp[go_sem,ei]
    exact next_i (i+1) ⟨by omega,⟨q,hinv⟩,at_0 rfl (args_eq (by simp[go_sem,ei]) rfl)⟩
  ·have q:i=32:=by simp at q;omega
   subst q
   rw[List.drop_of_length_le (by rw[resv_len];exact Nat.le_refl _)]at hinv
   simp[go_sem]
   exact ret _ _ (by rw[←hM,←hinv];rfl)
end Go.Proofs.YtajjjghohakniaaGreat
namespace Go.Proofs.YtajjjghohakniaaGreat
open Go Go.Vx
set_option maxRecDepth 100000
structure GToken where
 kind:Int
 place:Int
 s:List UInt8
 n:Int
 deriving DecidableEq
@[go_sem] def GToken.row (x:GToken):List V:= [.int .i64 x.kind,.int .i64 x.place,.str x.s,.int .i64 x.n]
structure RS where
 at_:Nat
 opn:Int
 err:Int
 place:Int
 deriving DecidableEq
def rB (L:List GToken) (s:RS):Ob:= .box [.sl .ro (L.map GToken.row),.int .i64 (s.at_:Int),.int .i64 s.opn,.int .i64 s.err,.int .i64 s.place]
theorem rB_lt (L:List GToken) (s:RS) (n:Nat):ltOb n (rB L s)=true:=by simp[rB,ltOb,ltC,ltK]
def noTok:GToken:=⟨0,0,[],0⟩
def tokF (L:List GToken) (s:RS):GToken:=L.getD s.at_ noTok
def failF (e place:Int) (s:RS):RS:=if s.err=0 then{s with err:=e,place:=place}else s
def nextF (s:RS):RS:={s with at_:=s.at_+1}
def outF (s:RS):RS:={s with opn:=s.opn - 1}
def isT (L:List GToken) (w:List UInt8) (s:RS):Bool:=s.err==0&&(((tokF L s).kind==1||(tokF L s).kind==4)&&(tokF L s).s==w)
def eatF (L:List GToken) (w:List UInt8) (s:RS):RS:=if isT L w s=true then nextF s else s
def mustF (L:List GToken) (w:List UInt8) (s:RS):RS:=if isT L w s=true then nextF s else failF 13 (tokF L s).place s
def nameB (L:List GToken) (s:RS):Bool:=s.err==0&&((tokF L s).kind==1&&wordF (tokF L s).s)
def nameF (L:List GToken) (s:RS):List UInt8×RS:=if nameB L s=true then((tokF L s).s,nextF s)else([],failF 13 (tokF L s).place s)
def numB (L:List GToken) (s:RS):Bool:=s.err==0&&(tokF L s).kind==2
def numF (L:List GToken) (s:RS):Int×RS:=if numB L s=true then((tokF L s).n,nextF s)else(0,failF 13 (tokF L s).place s)
def anyF (L:List GToken) (s:RS):List (List UInt8)→List UInt8
 | []=> []
 |w::ws=>if isT L w s=true then w else anyF L s ws
def ruleS (L:List GToken) (s:RS):RS:=if s.err=0∧s.opn+1>200 then{s with opn:=s.opn+1,err:=3,place:=(tokF L s).place}else{s with opn:=s.opn+1}
structure RIn (L:List GToken) (s:RS):Prop where
 at_:s.at_<L.length
 opn:0≤s.opn∧s.opn≤100000
structure LIn (L:List GToken):Prop where
 len:L.length≤1000000
 last: ∀i,L.length=i+1→(L.getD i noTok).kind=0
 txt: ∀t∈L,t.s.length≤maxLen
theorem LIn.next {L:List GToken} (h:LIn L) {s:RS} (hs:RIn L s) (hk:(tokF L s).kind≠0):RIn L (nextF s):=by
 refine⟨?_,hs.opn⟩
 have h1:=hs.at_
 rcases Nat.lt_or_ge (s.at_+1) L.length with h2|h2
 ·exact h2
 ·exact absurd (h.last s.at_ (by omega)) hk
theorem isT_kind {L:List GToken} {w:List UInt8} {s:RS} (h:isT L w s=true):(tokF L s).kind≠0∧s.err=0:=by
 unfold isT at h
 simp only[Bool.and_eq_true,Bool.or_eq_true,beq_iff_eq]at h
 exact⟨by omega,h.1⟩
theorem tok_w (L:List GToken) (hL:LIn L) (s:RS) (hs:RIn L s):VCalls Tryz.prog 70 [.ptr 0 0] [rB L s] (fun r σ=>r= .agg (tokF L s).row∧σ= [rB L s]):=by
 have h1:=hs.at_
 have hl:=hL.len
 obtain⟨t,ht⟩: ∃t,L[s.at_]=t:=⟨_,rfl⟩
 have htt:tokF L s=t:=by unfold tokF;rw[List.getD_eq_getElem?_getD,List.getElem?_eq_getElem h1,ht];rfl
 rw[htt]
 refine VCalls.intro 1 Tryz.func70 Tryz.ntmps70 Tryz.results70 rfl rfl (Nat.le_of_ble_eq_true rfl) fun c hc hb=>wcode_of ?_
 simp[go_sem,rB]
 refine wdraw_le [(10,4)] 2 (by simp) (by kernel_rfl) (by kernel_rfl) ?_
 simp[go_sem,rB,h1,ht]
 exact wret_s 1 rfl rfl rfl (Nat.le_refl _) (argS_no rfl) ⟨rfl,rfl⟩
theorem wVC_rd {P:Program} {c:Ctx} {f:FuncId} {caps args args':List V} {τ:St} {L:List GToken} {s s':RS} {v:V} {KV:V→St→Prop} (hc:VCalls P f args' [rB L s] (fun r σ=>r=v∧σ= [rB L s'])) (hb:callB P f=true)
  (hargs:All2 (argS (ren [0] (τ.length+1))) args' (args++caps)) (hn:noS v=true) (hk:KV v (rB L s'::τ)):wVC P c (.fn f caps) args (rB L s::τ) KV fx:=by
 refine wVC_at 0 hc hb rfl (rB_lt _ _ _) hargs (fun r σ h=>⟨_,h.2,rB_lt _ _ _⟩) ?_
 rintro r o2 ⟨rfl,h2⟩
 obtain rfl:o2=rB L s':=by simpa using h2
 rw[renS_no hn]
 exact hk
theorem wVD_rd {P:Program} {c:Ctx} {n:Nat} {f:FuncId} {caps args args':List V} {τ:St} {L:List GToken} {s s':RS} {v:V} {KV:V→St→Prop} (hc:VCalls P f args' [rB L s] (fun r σ=>r=v∧σ= [rB L s'])) (hb:callB P f=true)
  (hargs:All2 (argS (ren [0] (τ.length+1))) args' (args++caps)) (hn:noS v=true) (hk:KV v (rB L s'::τ)):wVD P c ⟨1,n⟩ 3 (.fn f caps) args (rB L s::τ) KV fx:=
 wVD_at0 hc hb rfl (rB_lt _ _ _) (rB_lt _ _ _) hargs hn hk
theorem rd_ptr {N:Nat} {l l':List V} (h:All2 (argS (ren [0] N)) l l'):All2 (argS (ren [0] N)) (.ptr 0 0::l) (.ptr 0 0::l'):=⟨.inl rfl,h⟩
theorem rd_1 {N:Nat}:All2 (argS (ren [0] N)) [.ptr 0 0] [.ptr 0 0]:=rd_ptr trivial
theorem wret_rd {R:V→St→Prop} {τ:St} {L:List GToken} {s:RS} {v r:V} (hr:argS (ren (List.range 1) (rB L s::τ).length) r v) (hR:R r [rB L s]):wret (some v) 1 R (rB L s::τ):=
 wret_s 1 rfl rfl (by simp[rB_lt]) (Nat.le_refl _) hr hR
theorem is_w (L:List GToken) (hL:LIn L) (s:RS) (hs:RIn L s) (w:List UInt8):VCalls Tryz.prog 69 [.ptr 0 0,.str w] [rB L s] (fun r σ=>r= .bool (isT L w s)∧σ= [rB L s]):=by
 have ht:=tok_w L hL s hs
 have htl:(tokF L s).s.length≤maxLen:=by
  unfold tokF
  rw[List.getD_eq_getElem?_getD,List.getElem?_eq_getElem hs.at_]
  exact hL.txt _ (List.getElem_mem _)
 generalize hM:isT L w s=M
 unfold isT at hM
 obtain⟨t,htt⟩: ∃t,tokF L s=t:=⟨_,rfl⟩
 rw[htt]at hM ht htl
 have ret: ∀(r:Bool) (τ:St),r=M→wret (some (.bool r)) 1 (fun r σ=>r= .bool M∧σ= [rB L s]) (rB L s::τ):=fun r τ h=>by subst h;exact wret_rd (argS_no rfl) ⟨rfl,rfl⟩
 refine VCalls.intro 1 Tryz.func69 Tryz.ntmps69 Tryz.results69 rfl rfl (Nat.le_of_ble_eq_true rfl) fun c hc hb=>wcode_of ?_
 simp[go_sem]
 refine wVC_rd ht Tryz.callB70 rd_1 rfl ?_
 simp[go_sem,rB]
 repeat' (first|(refine wgrd_i (fun q=> ?_) (fun q=> ?_)<;>simp[go_sem,q])|(refine wcond_i (fun q=> ?_) (fun q=> ?_)<;>simp[go_sem,q]))
 all_goals exact ret _ _ (by rw[←hM];simp_all)
theorem eat_w (L:List GToken) (hL:LIn L) (s:RS) (hs:RIn L s) (w:List UInt8):VCalls Tryz.prog 68 [.ptr 0 0,.str w] [rB L s] (fun r σ=>r= .bool (isT L w s)∧σ= [rB L (eatF L w s)]):=by
 have hi:=is_w L hL s hs w
 have h1:=hs.at_
 have hl:=hL.len
 have ei:IntKind.i64.wrap ((s.at_:Int)+1)=((s.at_+1:Nat):Int):=by rw[i64_id (by omega) (by omega)];omega
 unfold eatF
 generalize isT L w s=b at hi
 refine VCalls.intro 1 Tryz.func68 Tryz.ntmps68 Tryz.results68 rfl rfl (Nat.le_of_ble_eq_true rfl) fun c hc hb=>wcode_of ?_
 simp[go_sem]
 refine wVC_rd hi Tryz.callB69 (rd_ptr ⟨argS_no rfl,trivial⟩) rfl ?_
 simp[go_sem,rB]
 refine(Bool.eq_false_or_eq_true b).elim (fun q=> ?_) (fun q=> ?_)
 all_goals subst q
 all_goals simp[go_sem,ei]
 ·exact wret_rd (s:=nextF s) (argS_no rfl) ⟨rfl,rfl⟩
 ·exact wret_rd (s:=s) (argS_no rfl) ⟨rfl,rfl⟩
theorem fail_w (L:List GToken) (s:RS) (e p:Int):VCalls Tryz.prog 73 [.ptr 0 0,.int .i64 e,.int .i64 p] [rB L s] (fun r σ=>r= .tup []∧σ= [rB L (failF e p s)]):=by
 unfold failF
 refine VCalls.intro 1 Tryz.func73 Tryz.ntmps73 Tryz.results73 rfl rfl (Nat.le_of_ble_eq_true rfl) fun c hc hb=>wcode_of ?_
 simp[go_sem,rB]
 refine wcond_i (fun q=> ?_) (fun q=> ?_)
 ·have q:s.err=0:=by simpa using q
  simp[go_sem,q]
  exact wret_rd (s:={s with err:=e,place:=p}) (argS_no rfl) ⟨rfl,rfl⟩
 ·have q: ¬s.err=0:=by simpa using q
  simp[go_sem,q]
  exact wret_rd (s:=s) (argS_no rfl) ⟨rfl,rfl⟩
theorem must_w (L:List GToken) (hL:LIn L) (s:RS) (hs:RIn L s) (w:List UInt8):VCalls Tryz.prog 71 [.ptr 0 0,.str w] [rB L s] (fun r σ=>r= .tup []∧σ= [rB L (mustF L w s)]):=by
 have he:=eat_w L hL s hs w
 have ht:=tok_w L hL s hs
 have hf:=fail_w L s 13 (tokF L s).place
 unfold eatF at he
 unfold mustF
 generalize isT L w s=b at he
 refine VCalls.intro 1 Tryz.func71 Tryz.ntmps71 Tryz.results71 rfl rfl (Nat.le_of_ble_eq_true rfl) fun c hc hb=>wcode_of ?_
 simp[go_sem]
 refine wVC_rd he Tryz.callB68 (rd_ptr ⟨argS_no rfl,trivial⟩) rfl ?_
 simp[go_sem]
 refine(Bool.eq_false_or_eq_true b).elim (fun q=> ?_) (fun q=> ?_)
 all_goals subst q
 all_goals simp[go_sem]
 ·exact wret_rd (argS_no rfl) ⟨rfl,rfl⟩
 ·refine wVC_rd ht Tryz.callB70 rd_1 rfl ?_
  simp[go_sem]
  refine wVC_rd hf Tryz.callB73 (rd_ptr ⟨argS_no rfl,argS_no rfl,trivial⟩) rfl ?_
  simp[go_sem]
  exact wret_rd (argS_no rfl) ⟨rfl,rfl⟩
theorem name_w (L:List GToken) (hL:LIn L) (s:RS) (hs:RIn L s):VCalls Tryz.prog 117 [.ptr 0 0] [rB L s] (fun r σ=>r= .str (nameF L s).1∧σ= [rB L (nameF L s).2]):=by
 have ht:=tok_w L hL s hs
 have hf:=fail_w L s 13 (tokF L s).place
 have htl:(tokF L s).s.length≤maxLen:=by
  unfold tokF
  rw[List.getD_eq_getElem?_getD,List.getElem?_eq_getElem hs.at_]
  exact hL.txt _ (List.getElem_mem _)
 have hw:=refWord_w (tokF L s).s htl
 have h1:=hs.at_
 have hl:=hL.len
 have ei:IntKind.i64.wrap ((s.at_:Int)+1)=((s.at_+1:Nat):Int):=by rw[i64_id (by omega) (by omega)];omega
 have hno:nameB L s=false→nameF L s=([],failF 13 (tokF L s).place s):=fun h=>by unfold nameF;rw[h];rfl
 have hyes:nameB L s=true→nameF L s=((tokF L s).s,nextF s):=fun h=>by unfold nameF;rw[h];rfl
 generalize nameF L s=M at hno hyes⊢
 unfold nameB at hno hyes
 obtain⟨t,htt⟩: ∃t,tokF L s=t:=⟨_,rfl⟩
 rw[htt]at ht hf hw hno hyes
 obtain⟨b,hb0⟩: ∃b,wordF t.s=b:=⟨_,rfl⟩
 rw[hb0]at hw hno hyes
 have key:((s.err==0&&(t.kind==1&&b))=false∧(s.err !=0)=true)∨((s.err==0&&(t.kind==1&&b))=false∧(s.err !=0)=false∧(t.kind !=1)=true)∨((s.err==0&&(t.kind==1&&b))=b∧(s.err !=0)=false∧(t.kind !=1)=false):=by
  simp only[bne,Bool.not_eq_true',Bool.not_eq_false']
  cases s.err==0<;>cases t.kind==1<;>simp
 have no: ∀τ:St,M=([],failF 13 t.place s)→wret (some (.str [])) 1 (fun r σ=>r= .str M.1∧σ= [rB L M.2]) (rB L (failF 13 t.place s)::τ):=fun τ h=>by subst h;exact wret_rd (argS_no rfl) ⟨rfl,rfl⟩
 refine VCalls.intro 1 Tryz.func117 Tryz.ntmps117 Tryz.results117 rfl rfl (Nat.le_of_ble_eq_true rfl) fun c hc hb=>wcode_of ?_
 simp[go_sem]
 refine wVC_rd ht Tryz.callB70 rd_1 rfl ?_
 simp[go_sem,rB]
 refine key.elim (fun⟨q1,q2⟩=> ?_) fun key=>key.elim (fun⟨q1,q2,q3⟩=> ?_) fun⟨q1,q2,q3⟩=> ?_
 ·simp[go_sem,q2]
  refine wVC_rd hf Tryz.callB73 (rd_ptr ⟨argS_no rfl,argS_no rfl,trivial⟩) rfl ?_
  simp[go_sem]
  exact no _ (hno q1)
 ·simp[go_sem,q2,q3]
  refine wVC_rd hf Tryz.callB73 (rd_ptr ⟨argS_no rfl,argS_no rfl,trivial⟩) rfl ?_
  simp[go_sem]
  exact no _ (hno q1)
 ·simp[go_sem,q2,q3]
  refine wVC_pure hw Tryz.callB147 (args_no rfl) rfl ?_
  refine(Bool.eq_false_or_eq_true b).elim (fun q=> ?_) (fun q=> ?_)
  ·have hM:=hyes (q1.trans q)
   subst q
   subst hM
   simp[go_sem,ei]
   exact wret_rd (s:=nextF s) (argS_no rfl) ⟨rfl,rfl⟩
  ·have hM:=hno (q1.trans q)
   subst q
   simp[go_sem]
   refine wVC_rd hf Tryz.callB73 (rd_ptr ⟨argS_no rfl,argS_no rfl,trivial⟩) rfl ?_
   simp[go_sem]
   exact no _ hM
theorem num_w (L:List GToken) (hL:LIn L) (s:RS) (hs:RIn L s):VCalls Tryz.prog 72 [.ptr 0 0] [rB L s] (fun r σ=>r= .int .i64 (numF L s).1∧σ= [rB L (numF L s).2]):=by
 have ht:=tok_w L hL s hs
 have hf:=fail_w L s 13 (tokF L s).place
 have h1:=hs.at_
 have hl:=hL.len
 have ei:IntKind.i64.wrap ((s.at_:Int)+1)=((s.at_+1:Nat):Int):=by rw[i64_id (by omega) (by omega)];omega
 have hno:numB L s=false→numF L s=(0,failF 13 (tokF L s).place s):=fun h=>by unfold numF;rw[h];rfl
 have hyes:numB L s=true→numF L s=((tokF L s).n,nextF s):=fun h=>by unfold numF;rw[h];rfl
 generalize numF L s=M at hno hyes⊢
 unfold numB at hno hyes
 obtain⟨t,htt⟩: ∃t,tokF L s=t:=⟨_,rfl⟩
 rw[htt]at ht hf hno hyes
 have key:((s.err==0&&t.kind==2)=false∧(s.err !=0)=true)∨((s.err==0&&t.kind==2)=false∧(s.err !=0)=false∧(t.kind !=2)=true)∨((s.err==0&&t.kind==2)=true∧(s.err !=0)=false∧(t.kind !=2)=false):=by
  simp only[bne,Bool.not_eq_true',Bool.not_eq_false']
  cases s.err==0<;>cases t.kind==2<;>simp
 have no: ∀τ:St,M=(0,failF 13 t.place s)→wret (some (.int .i64 0)) 1 (fun r σ=>r= .int .i64 M.1∧σ= [rB L M.2]) (rB L (failF 13 t.place s)::τ):=fun τ h=>by subst h;exact wret_rd (argS_no rfl) ⟨rfl,rfl⟩
 refine VCalls.intro 1 Tryz.func72 Tryz.ntmps72 Tryz.results72 rfl rfl (Nat.le_of_ble_eq_true rfl) fun c hc hb=>wcode_of ?_
 simp[go_sem]
 refine wVC_rd ht Tryz.callB70 rd_1 rfl ?_
 simp[go_sem,rB]
 refine key.elim (fun⟨q1,q2⟩=> ?_) fun key=>key.elim (fun⟨q1,q2,q3⟩=> ?_) fun⟨q1,q2,q3⟩=> ?_
 ·simp[go_sem,q2]
  refine wVC_rd hf Tryz.callB73 (rd_ptr ⟨argS_no rfl,argS_no rfl,trivial⟩) rfl ?_
  simp[go_sem]
  exact no _ (hno q1)
 ·simp[go_sem,q2,q3]
  refine wVC_rd hf Tryz.callB73 (rd_ptr ⟨argS_no rfl,argS_no rfl,trivial⟩) rfl ?_
  simp[go_sem]
  exact no _ (hno q1)
 ·have hM:=hyes q1
  subst hM
  simp[go_sem,q2,q3,ei]
  exact wret_rd (s:=nextF s) (argS_no rfl) ⟨rfl,rfl⟩
theorem any_w (L:List GToken) (hL:LIn L) (s:RS) (hs:RIn L s) (ws:List (List UInt8)) (hw:ws.length≤1000):VCalls Tryz.prog 65 [.ptr 0 0,.sl .ro (ws.map fun w=> [V.str w])] [rB L s] (fun r σ=>r= .str (anyF L s ws)∧σ= [rB L s]):=by
 generalize hM:anyF L s ws=M
 have ret: ∀(r:List UInt8) (τ:St),r=M→wret (some (.str r)) 1 (fun r σ=>r= .str M∧σ= [rB L s]) (rB L s::τ):=fun r τ h=>by subst h;exact wret_rd (argS_no rfl) ⟨rfl,rfl⟩
 refine VCalls.introV 1 Tryz.func65 Tryz.ntmps65 Tryz.results65 rfl rfl (Nat.le_of_ble_eq_true rfl) fun c hc hb=> ?_
 refine wVW_code ?_
 simp[go_sem]
 refine wVW_while (S:=Nat) [0,1,5] (fun i=> [.ptr 0 0,.sl .ro (ws.map fun w=> [V.str w]),.int .i64 i]) (fun _=> [rB L s]) (fun i=>ws.length - i) (fun i=>i≤ws.length∧anyF L s (ws.drop i)=M) hc hb 0 ⟨Nat.zero_le _,hM⟩ ?_ ?_
 ·exact at_n 1 (by simp[go_sem,rB]) rfl (by simp[rB_lt]) (Nat.le_refl _) (args_lt_eq (by simp[go_sem]) rfl)
 rintro i ⟨hi,hinv⟩
 by_cases q:i<ws.length
 rotate_left
 ·rw[List.drop_eq_nil_of_le (by omega)]at hinv
  refine wVW_code ?_
  simp[go_sem,q]
  exact ret _ _ hinv
 have ei:=i64_inc q (by omega)
 obtain⟨w,hx⟩: ∃w,ws[i]=w:=⟨_,rfl⟩
 rw[List.drop_eq_getElem_cons q,hx,anyF]at hinv
 have hiw:=is_w L hL s hs w
 obtain⟨b,hb1⟩: ∃b,isT L w s=b:=⟨_,rfl⟩
 rw[hb1]at hiw hinv
 refine wVW_code ?_
 simp[go_sem,q,hx]
 refine wVC_rd hiw Tryz.callB69 (rd_ptr ⟨argS_no rfl,trivial⟩) rfl ?_
 simp[go_sem]
 refine wcond_i (fun w1=> ?_) (fun w1=> ?_)
 ·rw[if_pos w1]at hinv
  simp[go_sem,q,hx]
  exact ret _ _ hinv
 ·rw[if_neg (by rw[w1];decide)]at hinv
  simp[go_sem,ei]
  exact next_i (i+1) ⟨by omega,⟨q,hinv⟩,at_n 1 rfl rfl (by simp[rB_lt]) (Nat.le_refl _) (args_lt_eq (by simp[go_sem]) rfl)⟩
theorem rule_w (L:List GToken) (hL:LIn L) (s:RS) (hs:RIn L s) (h200:s.opn≤1000):VCalls Tryz.prog 214 [.ptr 0 0] [rB L s] (fun r σ=>r= .bool ((ruleS L s).err==0)∧σ= [rB L (ruleS L s)]):=by
 have ho:=hs.opn
 have ht:=tok_w L hL {s with opn:=s.opn+1} ⟨hs.at_,by simp only;omega⟩
 have e0:tokF L {s with opn:=s.opn+1}=tokF L s:=rfl
 rw[e0]at ht
 have hf:=fail_w L {s with opn:=s.opn+1} 3 (tokF L s).place
 have ei:IntKind.i64.wrap (s.opn+1)=s.opn+1:=by rw[i64_id (by omega) (by omega)]
 refine VCalls.intro 1 Tryz.func214 Tryz.ntmps214 Tryz.results214 rfl rfl (Nat.le_of_ble_eq_true rfl) fun c hc hb=>wcode_of ?_
 simp[go_sem,rB,ei]
 by_cases q1:s.err=0
 ·have q1':(s.err==0)=true:=by simpa using q1
  by_cases q2:s.opn+1>200
  ·have q2':decide (200<s.opn+1)=true:=decide_eq_true (by omega)
   have hS:ruleS L s=failF 3 (tokF L s).place {s with opn:=s.opn+1}:=by unfold ruleS failF;rw[if_pos ⟨q1,q2⟩,if_pos q1]
   rw[hS]
   simp[go_sem,q1',q2']
   refine wVC_rd ht Tryz.callB70 rd_1 rfl ?_
   simp[go_sem]
   refine wVC_rd hf Tryz.callB73 (rd_ptr ⟨argS_no rfl,argS_no rfl,trivial⟩) rfl ?_
   unfold failF
   rw[if_pos q1]
   simp[go_sem,rB]
   exact wret_rd (L:=L) (s:={s with opn:=s.opn+1,err:=3,place:=(tokF L s).place}) (argS_no rfl) ⟨rfl,rfl⟩
  ·have q2':decide (200<s.opn+1)=false:=decide_eq_false (by omega)
   have hS:ruleS L s={s with opn:=s.opn+1}:=by unfold ruleS;rw[if_neg (fun h=>q2 h.2)]
   rw[hS]
   simp[go_sem,q1',q2']
   exact wret_rd (L:=L) (s:={s with opn:=s.opn+1}) (argS_no rfl) ⟨rfl,rfl⟩
 ·have q1':(s.err==0)=false:=by simpa using q1
  have hS:ruleS L s={s with opn:=s.opn+1}:=by unfold ruleS;rw[if_neg (fun h=>q1 h.1)]
  rw[hS]
  simp[go_sem,q1']
  exact wret_rd (L:=L) (s:={s with opn:=s.opn+1}) (argS_no rfl) ⟨rfl,rfl⟩
theorem levels_w:Pure Tryz.prog 216 [] (.sl .ro [[.sl .ro [[.str [79,82]]]],[.sl .ro [[.str [65,78,68]]]]]):=by
 refine VCalls.intro 0 Tryz.func216 Tryz.ntmps216 Tryz.results216 rfl rfl (Nat.le_of_ble_eq_true rfl) fun c hc hb=>wcode_of ?_
 simp[go_sem]
 exact wret_0 argS_ro ⟨rfl,rfl⟩
mutual
def deepF:GExpr→Nat
 | .mk _ _ _ args=>deepsF args+1
def deepsF:List GExpr→Nat
 | []=>0
 |e::l=>max (deepF e) (deepsF l)
end
theorem deepF_eq (e:GExpr):deepF e=deepsF e.args+1:=by cases e;rw[deepF];rfl
theorem deepsF_mem: ∀(l:List GExpr) (e:GExpr),e∈l→deepF e≤deepsF l
 | [],_,h=>by simp at h
 |x::l,e,h=>by
  rw[deepsF]
  rcases List.mem_cons.1 h with rfl|h
  ·omega
  ·have:=deepsF_mem l e h;omega
inductive Wide:GExpr→Prop
 |mk (e:GExpr) (h:e.args.length≤1000000) (ha: ∀x∈e.args,Wide x):Wide e
theorem Wide.len {e:GExpr} (h:Wide e):e.args.length≤1000000:=by cases h;assumption
theorem Wide.sub {e:GExpr} (h:Wide e): ∀x∈e.args,Wide x:=by cases h;assumption
def maxD (l:List GExpr) (d:Nat):Nat:=l.foldl (fun d e=>max d (deepF e)) d
theorem maxD_eq: ∀(l:List GExpr) (d:Nat),maxD l d=max d (deepsF l)
 | [],d=>by simp[maxD,deepsF]
 |e::l,d=>by
  have:=maxD_eq l (max d (deepF e))
  unfold maxD at this⊢
  rw[List.foldl_cons,this,deepsF]
  omega
theorem Deep_w: ∀(n:Nat) (e:GExpr),deepF e≤n→n≤1000000→Wide e→Pure Tryz.prog 232 [.agg e.row] (.int .i64 (deepF e:Int))
 |0,e,h,_,_=>by rw[deepF_eq]at h;omega
 |n+1,e,h,hn,hw=>by
  have ih:=Deep_w n
  have hde:=deepF_eq e
  obtain⟨args,hargs⟩: ∃args,e.args=args:=⟨_,rfl⟩
  have hlen:=hw.len
  have hsub:=hw.sub
  rw[hargs]at hde hlen hsub
  obtain⟨D,hD⟩: ∃D,deepF e=D:=⟨_,rfl⟩
  rw[hD]at hde h⊢
  refine VCalls.introV 0 Tryz.func232 Tryz.ntmps232 Tryz.results232 rfl rfl (Nat.le_of_ble_eq_true rfl) fun c hc hb=> ?_
  refine wVW_code ?_
  simp[go_sem]
  refine wVW_while (S:=Nat×Nat) [1,3,4] (fun u=> [.ptr 0 0,.int .i64 (u.2:Int),.int .i64 (u.1:Int)]) (fun _=> [.box e.row]) (fun u=>args.length - u.1) (fun u=>u.1≤args.length∧maxD (args.drop u.1) u.2=deepsF args∧u.2≤n) hc hb (0,0) ⟨Nat.zero_le _,by simp[maxD_eq],Nat.zero_le _⟩ ?_ ?_
  ·exact at_n 1 (by simp[go_sem]) rfl (by simp[ltOb,ltC,ltK,GExpr.row_eq]) (Nat.zero_le _) (args_lt_eq (by simp[go_sem]) rfl)
  rintro⟨i,d⟩ ⟨hi,hinv,hdn⟩
  simp only at hi hinv hdn
  by_cases q:i<args.length
  rotate_left
  ·rw[List.drop_eq_nil_of_le (by omega)]at hinv
   have hdd:d=deepsF args:=hinv
   have ei:IntKind.i64.wrap ((d:Int)+1)=(D:Int):=by rw[i64_id (by omega) (by omega)];omega
   refine wVW_code ?_
   simp[go_sem,q,hargs,ei]
   exact wret_0 (argS_no rfl) ⟨rfl,rfl⟩
  have ei:=i64_inc q (by omega)
  obtain⟨x,hx⟩: ∃x,args[i]=x:=⟨_,rfl⟩
  have hxm:x∈args:=hx▸List.getElem_mem q
  have hdx:=deepsF_mem args x hxm
  rw[List.drop_eq_getElem_cons q,hx]at hinv
  have hdw:=ih x (by omega) (by omega) (hsub x hxm)
  have hinv2:maxD (args.drop (i+1)) (max d (deepF x))=deepsF args:=hinv
  obtain⟨dx,hdxe⟩: ∃dx,deepF x=dx:=⟨_,rfl⟩
  rw[hdxe]at hdw hinv2 hdx
  refine wVW_code ?_
  simp[go_sem,q,hargs,hx]
  refine wVC_pure hdw Tryz.callB232 (args_eq (by simp[go_sem]) (by rw[GExpr.row_eq];rfl)) rfl ?_
  simp[go_sem,ei]
  refine next_i (i+1,max d dx) ⟨by simp only;omega,⟨by simp only;omega,hinv2,by simp only;omega⟩, ?_⟩
  refine at_n 1 (by simp[go_sem,hargs]) rfl (by simp[ltOb,ltC,ltK,GExpr.row_eq]) (Nat.zero_le _) (args_lt_eq ?_ rfl)
  simp[go_sem]
  split<;>omega
end Go.Proofs.YtajjjghohakniaaGreat
