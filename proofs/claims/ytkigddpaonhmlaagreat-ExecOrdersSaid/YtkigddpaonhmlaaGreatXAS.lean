/-
  The document's reader of expressions: what it computes, as one function with a bound on how many rules are open (proved over trees, the library Vx); used by the theorem at the end of the claim.
  Conditions: as each theorem states them.
-/
import Derived.Test.YtkigddpaonhmlaaGreatXAM
import Derived.Test.YtkigddpaonhmlaaGreatXAN
import Derived.Test.YtkigddpaonhmlaaGreatXAO
set_option maxHeartbeats 8000000
namespace Go.Proofs.YtkigddpaonhmlaaGreat
open Go Go.Vx Go.Proofs.Tryz
set_option maxRecDepth 100000
def xa9 (s:List UInt8):List UInt8:=if s= [60]then [62]else if s= [60,61]then [62,61]else if s= [62]then [60]else if s= [62,61]then [60,61]else s
theorem xy5 (s:List UInt8):Pure prog 176 [.str s] (.str (xa9 s)):=by
 generalize hM:xa9 s=M
 have ret: ∀(r:List UInt8) (σ:St),r=M->wret (some (.str r)) 0 (fun r s=>r= .str M/\s= []) σ:=fun r σ h=>by subst h;exact zQ (zC rfl) ⟨rfl,rfl⟩
 unfold xa9 at hM
 refine iW 0 func176 ntmps176 results176 fun c hc hb=>zN ?_
 simp[go_sem]
 repeat' (first|(refine yZ (fun q=> ?_) (fun q=> ?_)<;>simp[go_sem,q])|(refine zT (fun q=> ?_) (fun q=> ?_)<;>simp[go_sem,q]))
 all_goals exact ret _ _ (by simp_all)
def opsTwo:List (List UInt8):= [[79,82],[65,78,68],[61],[60,62],[60],[60,61],[62],[62,61],[43],[45],[42],[47],[37]]
def opsOne:List (List UInt8):= [[78,79,84],[73,83,78,85,76,76],[78,79,84,78,85,76,76],[78,69,71]]
def zE1 (s:List UInt8):Int:=if opsTwo.contains s=true then 2 else if opsOne.contains s=true then 1 else 0
def zy8 (b:Bool):GValue:=⟨1,if b then 1 else 0,[]⟩
theorem zJ6 (b:Bool):Pure prog 122 [.bool b] (.agg (zy8 b).row):=by
 refine iW 0 func122 ntmps122 results122 fun c hc hb=>zN ?_
 simp[go_sem]
 cases b<;>simp[go_sem]<;>exact zQ (zC rfl) ⟨rfl,rfl⟩
theorem yw4 (v:GValue):Pure prog 222 [.agg v.row] (.bool (v.kind==0)):=by
 refine iW 0 func222 ntmps222 results222 fun c hc hb=>zN ?_
 simp[go_sem]
 exact zQ (zC rfl) ⟨rfl,rfl⟩
def zQ0 (many such:Bool) (k:Int):Int×Int:=if many=false then(0,9)else if such=false then(0,15)else(k,0)
def wA (r:Int×Int):V:= .tup [.int .i64 r.1,.int .i64 r.2]
theorem wO {r:Int×Int} {a e:Int} {σ:St} (h:r=(a,e)):wret (some (.tup [.int .i64 a,.int .i64 e])) 0 (fun v s=>v=wA r/\s= []) σ:=by
 subst h
 exact zQ (zC rfl) ⟨rfl,rfl⟩
theorem yy7 (many such:Bool) (k:Int):Pure prog 238 [.bool many,.bool such,.int .i64 k] (wA (zQ0 many such k)):=by
 refine iW 0 func238 ntmps238 results238 fun c hc hb=>zN ?_
 cases many<;>cases such<;>simp[go_sem]<;>exact wO rfl
def allK (l:List Int) (k:Int):Bool:=l.all fun x=>x==k||x==0
theorem yU2 (l:List Int) (k:Int) (hl:l.length<=maxLen):Pure prog 239 [.sl .ro (l.map fun n=> [V.int .i64 n]),.int .i64 k] (.bool (allK l k)):=by
 generalize hM:allK l k=M
 have ret: ∀(r:Bool) (σ:St),r=M->wret (some (.bool r)) 0 (fun r s=>r= .bool M/\s= []) σ:=fun r σ h=>by subst h;exact zQ (zC rfl) ⟨rfl,rfl⟩
 unfold allK at hM
 refine iV 0 func239 ntmps239 results239 fun c hc hb=> ?_
 refine zA ?_
 simp[go_sem]
 refine zL (S:=Nat) [1,7,8,9] (fun i=> [.int .i64 k,.sl .ro (l.map fun n=> [V.int .i64 n]),.int .i64 l.length,.int .i64 i]) (fun _=> []) (fun i=>l.length - i) (fun i=>i<=l.length/\((l.drop i).all fun x=>x==k||x==0)=M) hc hb 0 ⟨A3 _,hM⟩ ?_ ?_
 .exact aO
 rintro i ⟨hi,hinv⟩
 by_cases q:i<l.length
 rotate_left
 .have e:l.drop i= []:=A9 (by omega)
  rw[e]at hinv
  refine zA ?_
  simp[go_sem,q]
  exact ret _ _ hinv
 have ei:=zV q (by unfold maxLen at hl;omega)
 obtain⟨r,hr⟩:=eX (l[i])
 rw[A6 q,Am,hr]at hinv
 refine zA ?_
 simp[go_sem,q,hr]
 by_cases w1:r=k
 .simp[go_sem,w1,ei]
  rw[w1,beq_self_eq_true,Dl,B8]at hinv
  exact zI (i+1) ⟨by omega,⟨q,hinv⟩,aO⟩
 have w1':(r !=k)=true:=by simpa using w1
 by_cases w2:r=0
 .have w3:(r !=0)=false:=by simp[w2]
  simp[go_sem,w1',w3,ei]
  rw[w2,beq_self_eq_true,Eg,B8]at hinv
  exact zI (i+1) ⟨by omega,⟨q,hinv⟩,aO⟩
 have w2':(r !=0)=true:=by simpa using w2
 simp[go_sem,w1',w2']
 exact ret _ _ (by rw[<-hinv,show(r==k)=false by simpa using w1,show(r==0)=false by simpa using w2];rfl)
def zu8 (s:List UInt8) (l:List Int):Int×Int:=
 if s= [73,83,78,85,76,76]∨s= [78,79,84,78,85,76,76]then zQ0 ((l.length:Int)==1) true 1
 else if s= [78,79,84]then zQ0 ((l.length:Int)==1) (allK l 1) 1
 else if s= [78,69,71]then zQ0 ((l.length:Int)==1) (allK l 2) 2
 else if s= [79,82]∨s= [65,78,68]then zQ0 ((l.length:Int)==2) (allK l 1) 1
 else if s= [43]∨s= [45]∨s= [42]∨s= [47]∨s= [37]then zQ0 ((l.length:Int)==2) (allK l 2) 2
 else if s= [61]∨s= [60,62]∨s= [60]∨s= [60,61]∨s= [62]∨s= [62,61]then
  zQ0 ((l.length:Int)==2) ((l.length:Int)==2&&(l.getD 0 0==l.getD 1 0||(l.getD 0 0==0||l.getD 1 0==0))) 1
 else(0,9)
theorem yH4 (s:List UInt8) (x y:Int):Pure prog 213 [.str s,.sl .ro [[.int .i64 x],[.int .i64 y]]] (wA (zu8 s [x,y])):=by
 generalize hM:zu8 s [x,y]=M
 have ret: ∀(r:Int×Int) (σ:St),r=M->wret (some (.tup [.int .i64 r.1,.int .i64 r.2])) 0 (fun r s=>r=wA M/\s= []) σ:=fun r σ h=>by subst h;exact zQ (zC rfl) ⟨rfl,rfl⟩
 unfold zu8 at hM
 have h1:=yU2 [x,y] 1 (by unfold maxLen;simp)
 have h2:=yU2 [x,y] 2 (by unfold maxLen;simp)
 simp only[Al,Br]at h1 h2
 generalize allK [x,y] 1=a1 at h1 hM
 generalize allK [x,y] 2=a2 at h2 hM
 simp only[List.getD_cons_zero,List.getD_cons_succ]at hM
 refine iW 0 func213 ntmps213 results213 fun c hc hb=>zN ?_
 simp[go_sem]
 repeat' (first
  |(refine zT (fun q=> ?_) (fun q=> ?_)<;>simp[go_sem,q])
  |(refine yZ (fun q=> ?_) (fun q=> ?_)<;>simp[go_sem,q])
  |(refine yU [(23,0)] 0 rfl (by kernel_rfl) (by kernel_rfl) ?_;simp[go_sem])
  |(refine zD h1 cB (zH rfl) rfl ?_;simp[go_sem])
  |(refine zD h2 cB (zH rfl) rfl ?_;simp[go_sem])
  |(refine zD (yy7 _ _ _) cB (zH rfl) rfl ?_;simp[go_sem,wA])
  |(refine zW (yy7 _ _ _) cB (fun _=>zH rfl) rfl ?_;simp[go_sem,wA]))
 all_goals first|exact ret _ _ (by simp_all)|exact ret (0,9) _ (by simp_all)
theorem yH5 (s:List UInt8) (l:List Int) (hl:l.length<=maxLen) (hn:((l.length:Int)==2)=false):Pure prog 213 [.str s,.sl .ro (l.map fun n=> [V.int .i64 n])] (wA (zu8 s l)):=by
 generalize hM:zu8 s l=M
 have ret: ∀(r:Int×Int) (σ:St),r=M->wret (some (.tup [.int .i64 r.1,.int .i64 r.2])) 0 (fun r s=>r=wA M/\s= []) σ:=fun r σ h=>by subst h;exact zQ (zC rfl) ⟨rfl,rfl⟩
 unfold zu8 at hM
 have h1:=yU2 l 1 hl
 have h2:=yU2 l 2 hl
 generalize allK l 1=a1 at h1 hM
 generalize allK l 2=a2 at h2 hM
 simp only[hn,E1]at hM
 refine iW 0 func213 ntmps213 results213 fun c hc hb=>zN ?_
 simp[go_sem]
 repeat' (first
  |(refine zT (fun q=> ?_) (fun q=> ?_)<;>simp[go_sem,q,hn])
  |(refine yU [(23,0)] 0 rfl (by kernel_rfl) (by kernel_rfl) ?_;simp[go_sem])
  |(refine zD h1 cB (zH rfl) rfl ?_;simp[go_sem])
  |(refine zD h2 cB (zH rfl) rfl ?_;simp[go_sem])
  |(refine zD (yy7 _ _ _) cB (zH rfl) rfl ?_;simp[go_sem,wA])
  |(refine zW (yy7 _ _ _) cB (fun _=>zH rfl) rfl ?_;simp[go_sem,wA]))
 all_goals first|exact ret _ _ (by simp_all)|exact ret (0,9) _ (by simp_all)
theorem yQ0 (s:List UInt8) (l:List Int) (hl:l.length<=maxLen):Pure prog 213 [.str s,.sl .ro (l.map fun n=> [V.int .i64 n])] (wA (zu8 s l)):=by
 by_cases h:l.length=2
 .match l,h with
  | [x,y],_=>exact yH4 s x y
 .exact yH5 s l hl (by simpa using (show ¬(l.length:Int)=2 by omega))
theorem zl3 {ρ:Nat->Nat} {g:Tag} {rows rows':List (List V)} (h:rows'=rows):argS ρ (.sl .ro rows') (.sl g rows):=by subst h;exact zX
theorem yz0 {n:Int} (h:0<=n) (h2:n<=255):IntKind.u8.wrap n=n:=by
 unfold IntKind.wrap
 simp[IntKind.bits,IntKind.signed]
 omega
def yG (c:UInt8):UInt8:=if 97<=c.toNat/\c.toNat<=122 then UInt8.ofNat (c.toNat - 32)else c
def wG (c:UInt8):Bool:=decide (48<=c.toNat/\c.toNat<=57)
def wZ (c:UInt8):Bool:=decide (65<=(yG c).toNat/\(yG c).toNat<=90)||decide (c.toNat=95)
theorem yu8 (c:UInt8):Pure prog 147 [.int .u8 c.toNat] (.int .u8 (yG c).toNat):=by
 have hc:=c.toNat_lt
 have ret: ∀(r:Int) (σ:St),r=((yG c).toNat:Int)->wret (some (.int .u8 r)) 0 (fun r s=>r= .int .u8 (yG c).toNat/\s= []) σ:=fun r σ h=>by subst h;exact zQ (zC rfl) ⟨rfl,rfl⟩
 unfold yG at ret⊢
 obtain⟨n,hn⟩:=eX c.toNat
 have hof:n<=255->(UInt8.ofNat (n - 32)).toNat=n - 32:=fun h=>by
  rw[UInt8.toNat_ofNat'];exact Ch (by omega)
 rw[hn]at hc ret⊢
 refine iW 0 func147 ntmps147 results147 fun c hc hb=>zN ?_
 simp[go_sem]
 refine yZ (fun q=> ?_) (fun q=> ?_)
 .have q1:97<=n:=by simp at q;omega
  simp[go_sem,q]
  refine zT (fun q2=> ?_) (fun q2=> ?_)
  .have q2:n<=122:=by simp at q2;omega
   have e1:IntKind.u8.wrap ((n:Int) - 97)=(n:Int) - 97:=yz0 (by omega) (by omega)
   have e2:IntKind.u8.wrap ((n:Int) - 97+65)=(n:Int) - 97+65:=yz0 (by omega) (by omega)
   simp[go_sem,e1,e2]
   exact ret _ _ (by rw[if_pos ⟨q1,q2⟩,hof (by omega)];omega)
  .have q2: ¬n<=122:=by simp at q2;omega
   simp[go_sem]
   exact ret _ _ (by rw[if_neg (fun h=>q2 h.2),hn])
 .have q1: ¬97<=n:=by simp at q;omega
  simp[go_sem,q]
  exact ret _ _ (by rw[if_neg (fun h=>q1 h.1),hn])
theorem zv2 (c:UInt8):Pure prog 146 [.int .u8 c.toNat] (.bool (wG c)):=by
 unfold wG
 generalize c.toNat=n
 generalize hM:decide (48<=n/\n<=57)=M
 have ret: ∀(r:Bool) (σ:St),r=M->wret (some (.bool r)) 0 (fun r s=>r= .bool M/\s= []) σ:=fun r σ h=>by subst h;exact zQ (zC rfl) ⟨rfl,rfl⟩
 refine iW 0 func146 ntmps146 results146 fun c hc hb=>zN ?_
 simp[go_sem]
 refine yZ (fun q=> ?_) (fun q=> ?_)
 .simp[go_sem,q]
  refine ret _ _ ?_
  rw[<-hM]
  simp at q
  exact decide_eq_decide.2 (by omega)
 .simp[go_sem,q]
  refine ret _ _ ?_
  rw[<-hM]
  simp at q
  exact(decide_eq_false (by omega)).symm
theorem zx5 (c:UInt8):Pure prog 145 [.int .u8 c.toNat] (.bool (wZ c)):=by
 have hg:=yu8 c
 unfold wZ
 revert hg
 generalize (yG c).toNat=g
 generalize c.toNat=n
 generalize hM:(decide (65<=g/\g<=90)||decide (n=95))=M
 have ret: ∀(r:Bool) (σ:St),r=M->wret (some (.bool r)) 0 (fun r s=>r= .bool M/\s= []) σ:=fun r σ h=>by subst h;exact zQ (zC rfl) ⟨rfl,rfl⟩
 have beqd: ∀(a:Nat) (b:Bool),((a:Int)==95)=b->decide (a=95)=b:=fun a b h=>by
  rw[<-h]
  by_cases q:a=95
  .subst q;rfl
  .rw[decide_eq_false q]
   exact(beq_eq_false_iff_ne.2 (by omega)).symm
 intro hg
 refine iW 0 func145 ntmps145 results145 fun c hc hb=>zN ?_
 simp[go_sem]
 refine zD hg cB (zH rfl) rfl ?_
 simp[go_sem]
 refine yZ (fun q=> ?_) (fun q=> ?_)
 .simp[go_sem,q]
  refine zD hg cB (zH rfl) rfl ?_
  simp[go_sem]
  simp at q
  refine yZ (fun q2=> ?_) (fun q2=> ?_)
  .have q3: ¬g<=90:=by simp at q2;omega
   simp[go_sem,q2]
   exact ret _ _ (by rw[<-hM,decide_eq_false (fun h=>q3 h.2),C8];exact(beqd n _ rfl).symm)
  .have q3:g<=90:=by simp at q2;omega
   simp[go_sem,q2]
   exact ret _ _ (by rw[<-hM,decide_eq_true ⟨by omega,q3⟩];rfl)
 .have q3: ¬65<=g:=by simp at q;omega
  simp[go_sem,q]
  exact ret _ _ (by rw[<-hM,decide_eq_false (fun h=>q3 h.1),C8];exact(beqd n _ rfl).symm)
def resv:List (List UInt8):= [[65,76,76],[65,78,68],[65,83],[65,83,67],[66,69,84,87,69,69,78],[66,79,85,78,68],[66,89],[67,79,85,78,84],[68,69,76,69,84,69],[68,69,83,67],[69,88,65,67,84],[70,65,76,83,69],[70,82,79,77],[73,78,83,69,82,84],[73,78,84,79],[73,83],[76,73,77,73,84],[78,79,84],[78,85,76,76],[78,79,87],[79,70],[79,82],[79,82,68,69,82],[83,69,76,69,67,84],[83,69,84],[83,85,77],[83,89,83,84,69,77],[84,73,77,69],[84,82,85,69],[85,80,68,65,84,69],[86,65,76,85,69,83],[87,72,69,82,69]]
theorem zP2:resv.length=32:=rfl
theorem yM2:Pure prog 208 [] (.sl .ro (resv.map fun s=> [.str s])):=by
 refine iW 0 func208 ntmps208 results208 fun c hc hb=>zN ?_
 simp[go_sem]
 exact zQ (zl3 (by simp[resv])) ⟨rfl,rfl⟩
def okC (c:UInt8):Bool:=(wZ c||wG c)&&(yG c==c)
def zk3 (s:List UInt8):Bool:=decide (1<=s.length/\s.length<=16)&&(!wG (s.headD 0)&&(s.all okC&& !resv.contains s))
theorem zT4 (s:List UInt8) (hl:s.length<=maxLen):Pure prog 153 [.str s] (.bool (zk3 s)):=by
 generalize hM:zk3 s=M
 unfold zk3 at hM
 have ret: ∀(r:Bool) (σ:St),r=M->wret (some (.bool r)) 0 (fun r s=>r= .bool M/\s= []) σ:=fun r σ h=>by subst h;exact zQ (zC rfl) ⟨rfl,rfl⟩
 refine iV 0 func153 ntmps153 results153 fun c hc hb=> ?_
 refine zA ?_
 simp[go_sem]
 by_cases h0:s.length=0
 .have h0':((s.length:Int)==0)=true:=by simpa using h0
  simp[go_sem,h0']
  exact ret _ _ (by rw[<-hM,decide_eq_false (by omega)];rfl)
 have h0':((s.length:Int)==0)=false:=by simpa using h0
 simp[go_sem,h0']
 by_cases h16:s.length<=16
 rotate_left
 .have h16':decide (16<(s.length:Int))=true:=by simp;omega
  simp[go_sem,h16']
  exact ret _ _ (by rw[<-hM,decide_eq_false (by omega)];rfl)
 have h16':decide (16<(s.length:Int))=false:=by simp;omega
 rw[decide_eq_true ⟨by omega,h16⟩,B8]at hM
 have hp:0<s.length:=by omega
 obtain⟨c0,hc0⟩: ∃c,s[0]=c:=⟨_,rfl⟩
 have hhd:s.headD 0=c0:=by
  rw[<-hc0]
  cases s with
  |nil=>simp at hp
  |cons x l=>rfl
 rw[hhd]at hM
 simp[go_sem,h16',hp,hc0]
 try (refine zJ (by omega) ?_;simp[go_sem])
 refine zD (zv2 c0) cB (zH rfl) rfl ?_
 simp[go_sem]
 refine zT (fun hd=> ?_) (fun hd=> ?_)
 .simp[go_sem]
  exact ret _ _ (by rw[<-hM,hd];rfl)
 rw[hd,Bool.not_false,B8]at hM
 simp[go_sem]
 refine zL (S:=Nat) [0,3] (fun i=> [.str s,.int .i64 i]) (fun _=> []) (fun i=>s.length - i) (fun i=>i<=s.length/\(s.drop i).all okC=s.all okC) hc hb 0 ⟨A3 _,rfl⟩ ?_ ?_
 .exact aO
 rintro i ⟨hi,hinv⟩
 refine zA ?_
 simp[go_sem]
 refine zT (fun q=> ?_) (fun q=> ?_)
 .have q:i<s.length:=by simpa using q
  have ei:=zV q (by omega)
  obtain⟨c1,hc1⟩: ∃c,s[i]=c:=⟨_,rfl⟩
  rw[A6 q,Am,hc1]at hinv
  have hok:okC c1=((wZ c1||wG c1)&&(yG c1==c1)):=rfl
  have g1:=zx5 c1
  have g2:=zv2 c1
  have g3:=yu8 c1
  have hne:(((yG c1).toNat:Int) !=(c1.toNat:Int))= !(yG c1==c1):=by
   by_cases h:yG c1=c1
   .rw[h];simp
   .have: ¬(yG c1).toNat=c1.toNat:=fun w=>h (UInt8.toNat_inj.1 w)
    rw[beq_eq_false_iff_ne.2 h]
    simp
    omega
  revert hok g1 g2 g3 hne
  generalize wZ c1=bl
  generalize wG c1=bd
  generalize hgg:(yG c1==c1)=bg
  generalize yG c1=cg
  intro hok g1 g2 g3 hne
  have bad: ∀(b:Bool) (σ:St),okC c1=false->wret (some (.bool false)) 0 (fun r s=>r= .bool M/\s= []) σ:=fun b σ h=>ret _ _ (by rw[<-hM,<-hinv,h];rfl)
  have good:okC c1=true->(s.drop (i+1)).all okC=s.all okC:=fun h=>by rw[<-hinv,h,B8]
  simp[go_sem]
  refine yU [(3,0),(9,0),(16,0)] 0 rfl (by kernel_rfl) (by kernel_rfl) ?_
  simp[go_sem,q,hc1]
  refine zW g1 cB (fun _=>zH rfl) rfl ?_
  simp[go_sem]
  refine(A7 bl).elim (fun w=> ?_) (fun w=> ?_)
  .simp[go_sem,w,q,hc1]
   refine zW g3 cB (fun _=>zH rfl) rfl ?_
   simp[go_sem,q,hc1]
   refine zT (fun w3=> ?_) (fun w3=> ?_)
   .simp[go_sem]
    exact bad true _ (by rw[hok,w];rw[hne]at w3;simpa using w3)
   .simp[go_sem,ei]
    exact zI (i+1) ⟨by omega,⟨q,good (by rw[hok,w];rw[hne]at w3;simpa using w3)⟩,aO⟩
  .simp[go_sem,w,q,hc1]
   refine zW g2 cB (fun _=>zH rfl) rfl ?_
   simp[go_sem]
   refine(A7 bd).elim (fun w2=> ?_) (fun w2=> ?_)
   .simp[go_sem,w2,q,hc1]
    refine zW g3 cB (fun _=>zH rfl) rfl ?_
    simp[go_sem,q,hc1]
    refine zT (fun w3=> ?_) (fun w3=> ?_)
    .simp[go_sem]
     exact bad true _ (by rw[hok,w,w2];rw[hne]at w3;simpa using w3)
    .simp[go_sem,ei]
     exact zI (i+1) ⟨by omega,⟨q,good (by rw[hok,w,w2];rw[hne]at w3;simpa using w3)⟩,aO⟩
   .simp[go_sem,w2]
    exact bad true _ (by rw[hok,w,w2];rfl)
 .have q:i=s.length:=by
   have: ¬i<s.length:=by simpa using q
   omega
  subst q
  rw[Cu,Cp]at hinv
  rw[<-hinv,B8]at hM
  simp[go_sem]
  refine zD yM2 cB (zH rfl) rfl ?_
  simp[go_sem]
  refine zL (S:=Nat) [0,4,5] (fun i=> [.str s,.sl .ro (resv.map fun s=> [.str s]),.int .i64 i]) (fun _=> []) (fun i=>32 - i) (fun i=>i<=32/\(resv.drop i).contains s=resv.contains s) hc hb 0 ⟨A3 _,rfl⟩ ?_ ?_
  .exact aO
  rintro i ⟨hi,hinv⟩
  refine zA ?_
  simp[go_sem,zP2]
  refine zT (fun q=> ?_) (fun q=> ?_)
  .have q:i<32:=by simp at q;omega
   have q2:i<resv.length:=by rw[zP2];exact q
   have ei:=zV q (by omega)
   obtain⟨x,hx⟩:=eX (resv[i])
   rw[A6 q2,Dw,hx]at hinv
   simp[go_sem,zP2,q,hx]
   try (refine zJ (by omega) ?_;simp[go_sem])
   refine zT (fun w=> ?_) (fun w=> ?_)
   .have w:x=s:=by simpa using w
    simp[go_sem]
    exact ret _ _ (by rw[<-hM,<-hinv,w];simp)
   .have w: ¬x=s:=by simpa using w
    have w2:(s==x)=false:=beq_eq_false_iff_ne.2 fun h=>w h.symm
    rw[w2,C8]at hinv
    simp[go_sem,ei]
    exact zI (i+1) ⟨by omega,⟨q,hinv⟩,aO⟩
  .have q:i=32:=by simp at q;omega
   subst q
   rw[Bs (by rw[zP2];exact A2 _)]at hinv
   simp[go_sem]
   exact ret _ _ (by rw[<-hM,<-hinv];rfl)
structure GToken where
 kind:Int
 place:Int
 s:List UInt8
 n:Int
 deriving DecidableEq
@[go_sem] def GToken.row (x:GToken):List V:= [.int .i64 x.kind,.int .i64 x.place,.str x.s,.int .i64 x.n]
structure RS where
 at_:Nat
 opn:Int
 err:Int
 place:Int
 deriving DecidableEq
def rB (L:List GToken) (s:RS):Ob:= .box [.sl .ro (L.map GToken.row),.int .i64 (s.at_:Int),.int .i64 s.opn,.int .i64 s.err,.int .i64 s.place]
theorem zL1 (L:List GToken) (s:RS) (n:Nat):ltOb n (rB L s)=true:=by simp[rB,ltOb,ltC,ltK]
def zl9:GToken:=⟨0,0,[],0⟩
def tokF (L:List GToken) (s:RS):GToken:=L.getD s.at_ zl9
def wY (e place:Int) (s:RS):RS:=if s.err=0 then{s with err:=e,place:=place}else s
def zO (s:RS):RS:={s with at_:=s.at_+1}
def outF (s:RS):RS:={s with opn:=s.opn - 1}
def isT (L:List GToken) (w:List UInt8) (s:RS):Bool:=s.err==0&&(((tokF L s).kind==1||(tokF L s).kind==4)&&(tokF L s).s==w)
def eatF (L:List GToken) (w:List UInt8) (s:RS):RS:=if isT L w s=true then zO s else s
def yD (L:List GToken) (w:List UInt8) (s:RS):RS:=if isT L w s=true then zO s else wY 13 (tokF L s).place s
def yq0 (L:List GToken) (s:RS):Bool:=s.err==0&&((tokF L s).kind==1&&zk3 (tokF L s).s)
def yW (L:List GToken) (s:RS):List UInt8×RS:=if yq0 L s=true then((tokF L s).s,zO s)else([],wY 13 (tokF L s).place s)
def numB (L:List GToken) (s:RS):Bool:=s.err==0&&(tokF L s).kind==2
def numF (L:List GToken) (s:RS):Int×RS:=if numB L s=true then((tokF L s).n,zO s)else(0,wY 13 (tokF L s).place s)
def anyF (L:List GToken) (s:RS):List (List UInt8)->List UInt8
 | []=> []
 |w::ws=>if isT L w s=true then w else anyF L s ws
def yQ (L:List GToken) (s:RS):RS:=if s.err=0/\s.opn+1>200 then{s with opn:=s.opn+1,err:=3,place:=(tokF L s).place}else{s with opn:=s.opn+1}
structure RIn (L:List GToken) (s:RS):Prop where
 at_:s.at_<L.length
 opn:0<=s.opn/\s.opn<=100000
structure LIn (L:List GToken):Prop where
 len:L.length<=1000000
 last: ∀i,L.length=i+1->(L.getD i zl9).kind=0
 txt: ∀t∈L,t.s.length<=maxLen
theorem LIn.next {L:List GToken} (h:LIn L) {s:RS} (hs:RIn L s) (hk:(tokF L s).kind≠0):RIn L (zO s):=by
 refine⟨?_,hs.opn⟩
 have h1:=hs.at_
 rcases Cf (s.at_+1) L.length with h2|h2
 .exact h2
 .exact absurd (h.last s.at_ (by omega)) hk
theorem xr6 {L:List GToken} {w:List UInt8} {s:RS} (h:isT L w s=true):(tokF L s).kind≠0/\s.err=0:=by
 unfold isT at h
 simp only[A4,Bt,beq_iff_eq]at h
 exact⟨by omega,h.1⟩
theorem zq2 (L:List GToken) (hL:LIn L) (s:RS) (hs:RIn L s):VCalls prog 43 [.ptr 0 0] [rB L s] (fun r σ=>r= .agg (tokF L s).row/\σ= [rB L s]):=by
 have h1:=hs.at_
 have hl:=hL.len
 obtain⟨t,ht⟩:=eX (L[s.at_])
 have htt:tokF L s=t:=by unfold tokF;rw[A5,A0 h1,ht];rfl
 rw[htt]
 refine iW 1 func43 ntmps43 results43 fun c hc hb=>zN ?_
 simp[go_sem,rB]
 refine zb7 [(10,4)] 2 (by simp) (by kernel_rfl) (by kernel_rfl) ?_
 simp[go_sem,h1,ht]
 exact xJ 1 rfl rfl rfl (A2 _) (zC rfl) ⟨rfl,rfl⟩
theorem zK {P:Program} {c:Ctx} {f:FuncId} {caps args args':List V} {τ:St} {L:List GToken} {s s':RS} {v:V} {KV:V->St->Prop} (hc:VCalls P f args' [rB L s] (fun r σ=>r=v/\σ= [rB L s'])) (hb:wS P f=true)
  (hargs:All2 (argS (ren [0] (τ.length+1))) args' (args++caps)) (hn:noS v=true) (hk:KV v (rB L s'::τ)):wVC P c (.fn f caps) args (rB L s::τ) KV fx:=by
 refine zl2 0 hc hb rfl (zL1 _ _ _) hargs (fun r σ h=>⟨_,h.2,zL1 _ _ _⟩) ?_
 rintro r o2 ⟨rfl,h2⟩
 obtain rfl:o2=rB L s':=by simpa using h2
 rw[zD2 hn]
 exact hk
theorem zv6 {P:Program} {c:Ctx} {n:Nat} {f:FuncId} {caps args args':List V} {τ:St} {L:List GToken} {s s':RS} {v:V} {KV:V->St->Prop} (hc:VCalls P f args' [rB L s] (fun r σ=>r=v/\σ= [rB L s'])) (hb:wS P f=true)
  (hargs:All2 (argS (ren [0] (τ.length+1))) args' (args++caps)) (hn:noS v=true) (hk:KV v (rB L s'::τ)):wVD P c ⟨1,n,[],none⟩ 3 (.fn f caps) args (rB L s::τ) KV fx:=
 xJ7 hc hb rfl (zL1 _ _ _) (zL1 _ _ _) hargs hn hk
theorem zM {N:Nat} {l l':List V} (h:All2 (argS (ren [0] N)) l l'):All2 (argS (ren [0] N)) (.ptr 0 0::l) (.ptr 0 0::l'):=⟨.inl rfl,h⟩
theorem rd_1 {N:Nat}:All2 (argS (ren [0] N)) [.ptr 0 0] [.ptr 0 0]:=zM trivial
theorem xB {R:V->St->Prop} {τ:St} {L:List GToken} {s:RS} {v r:V} (hr:argS (ren (List.range 1) (rB L s::τ).length) r v) (hR:R r [rB L s]):wret (some v) 1 R (rB L s::τ):=
 xJ 1 rfl rfl (by simp[zL1]) (A2 _) hr hR
theorem is_w (L:List GToken) (hL:LIn L) (s:RS) (hs:RIn L s) (w:List UInt8):VCalls prog 42 [.ptr 0 0,.str w] [rB L s] (fun r σ=>r= .bool (isT L w s)/\σ= [rB L s]):=by
 have ht:=zq2 L hL s hs
 have htl:(tokF L s).s.length<=maxLen:=by
  unfold tokF
  rw[A5,A0 hs.at_]
  exact hL.txt _ (A8 _)
 generalize hM:isT L w s=M
 unfold isT at hM
 obtain⟨t,htt⟩:=eX (tokF L s)
 rw[htt]at hM ht htl
 have ret: ∀(r:Bool) (τ:St),r=M->wret (some (.bool r)) 1 (fun r σ=>r= .bool M/\σ= [rB L s]) (rB L s::τ):=fun r τ h=>by subst h;exact xB (zC rfl) ⟨rfl,rfl⟩
 refine iW 1 func42 ntmps42 results42 fun c hc hb=>zN ?_
 simp[go_sem]
 refine zK ht cB rd_1 rfl ?_
 simp[go_sem,rB]
 repeat' (first|(refine yZ (fun q=> ?_) (fun q=> ?_)<;>simp[go_sem,q])|(refine zT (fun q=> ?_) (fun q=> ?_)<;>simp[go_sem,q]))
 all_goals exact ret _ _ (by rw[<-hM];simp_all)
theorem yb2 (L:List GToken) (hL:LIn L) (s:RS) (hs:RIn L s) (w:List UInt8):VCalls prog 41 [.ptr 0 0,.str w] [rB L s] (fun r σ=>r= .bool (isT L w s)/\σ= [rB L (eatF L w s)]):=by
 have hi:=is_w L hL s hs w
 have h1:=hs.at_
 have hl:=hL.len
 have ei:IntKind.i64.wrap ((s.at_:Int)+1)=((s.at_+1:Nat):Int):=by rw[i64_id (by omega) (by omega)];omega
 unfold eatF
 generalize isT L w s=b at hi
 refine iW 1 func41 ntmps41 results41 fun c hc hb=>zN ?_
 simp[go_sem]
 refine zK hi cB (zM ⟨zC rfl,trivial⟩) rfl ?_
 simp[go_sem,rB]
 refine(A7 b).elim (fun q=> ?_) (fun q=> ?_)
 all_goals subst q
 all_goals simp[go_sem,ei]
 .exact xB (s:=zO s) (zC rfl) ⟨rfl,rfl⟩
 .exact xB (s:=s) (zC rfl) ⟨rfl,rfl⟩
theorem zF8 (L:List GToken) (s:RS) (e p:Int):VCalls prog 46 [.ptr 0 0,.int .i64 e,.int .i64 p] [rB L s] (fun r σ=>r= .tup []/\σ= [rB L (wY e p s)]):=by
 unfold wY
 refine iW 1 func46 ntmps46 results46 fun c hc hb=>zN ?_
 simp[go_sem,rB]
 refine zT (fun q=> ?_) (fun q=> ?_)
 .have q:s.err=0:=by simpa using q
  simp[go_sem,q]
  exact xB (s:={s with err:=e,place:=p}) (zC rfl) ⟨rfl,rfl⟩
 .have q: ¬s.err=0:=by simpa using q
  simp[go_sem,q]
  exact xB (s:=s) (zC rfl) ⟨rfl,rfl⟩
theorem zd4 (L:List GToken) (hL:LIn L) (s:RS) (hs:RIn L s) (w:List UInt8):VCalls prog 44 [.ptr 0 0,.str w] [rB L s] (fun r σ=>r= .tup []/\σ= [rB L (yD L w s)]):=by
 have he:=yb2 L hL s hs w
 have ht:=zq2 L hL s hs
 have hf:=zF8 L s 13 (tokF L s).place
 unfold eatF at he
 unfold yD
 generalize isT L w s=b at he
 refine iW 1 func44 ntmps44 results44 fun c hc hb=>zN ?_
 simp[go_sem]
 refine zK he cB (zM ⟨zC rfl,trivial⟩) rfl ?_
 simp[go_sem]
 refine(A7 b).elim (fun q=> ?_) (fun q=> ?_)
 all_goals subst q
 all_goals simp[go_sem]
 .exact xB (zC rfl) ⟨rfl,rfl⟩
 .refine zK ht cB rd_1 rfl ?_
  simp[go_sem]
  refine zK hf cB (zM ⟨zC rfl,zC rfl,trivial⟩) rfl ?_
  simp[go_sem]
  exact xB (zC rfl) ⟨rfl,rfl⟩
theorem zM1 (L:List GToken) (hL:LIn L) (s:RS) (hs:RIn L s):VCalls prog 90 [.ptr 0 0] [rB L s] (fun r σ=>r= .str (yW L s).1/\σ= [rB L (yW L s).2]):=by
 have ht:=zq2 L hL s hs
 have hf:=zF8 L s 13 (tokF L s).place
 have htl:(tokF L s).s.length<=maxLen:=by
  unfold tokF
  rw[A5,A0 hs.at_]
  exact hL.txt _ (A8 _)
 have hw:=zT4 (tokF L s).s htl
 have h1:=hs.at_
 have hl:=hL.len
 have ei:IntKind.i64.wrap ((s.at_:Int)+1)=((s.at_+1:Nat):Int):=by rw[i64_id (by omega) (by omega)];omega
 have hno:yq0 L s=false->yW L s=([],wY 13 (tokF L s).place s):=fun h=>by unfold yW;rw[h];rfl
 have hyes:yq0 L s=true->yW L s=((tokF L s).s,zO s):=fun h=>by unfold yW;rw[h];rfl
 generalize yW L s=M at hno hyes⊢
 unfold yq0 at hno hyes
 obtain⟨t,htt⟩:=eX (tokF L s)
 rw[htt]at ht hf hw hno hyes
 obtain⟨b,hb0⟩:=eX (zk3 t.s)
 rw[hb0]at hw hno hyes
 have key:((s.err==0&&(t.kind==1&&b))=false/\(s.err !=0)=true)∨((s.err==0&&(t.kind==1&&b))=false/\(s.err !=0)=false/\(t.kind !=1)=true)∨((s.err==0&&(t.kind==1&&b))=b/\(s.err !=0)=false/\(t.kind !=1)=false):=by
  simp only[bne,Ck,Bool.not_eq_false']
  cases s.err==0<;>cases t.kind==1<;>simp
 have no: ∀τ:St,M=([],wY 13 t.place s)->wret (some (.str [])) 1 (fun r σ=>r= .str M.1/\σ= [rB L M.2]) (rB L (wY 13 t.place s)::τ):=fun τ h=>by subst h;exact xB (zC rfl) ⟨rfl,rfl⟩
 refine iW 1 func90 ntmps90 results90 fun c hc hb=>zN ?_
 simp[go_sem]
 refine zK ht cB rd_1 rfl ?_
 simp[go_sem,rB]
 refine key.elim (fun⟨q1,q2⟩=> ?_) fun key=>key.elim (fun⟨q1,q2,q3⟩=> ?_) fun⟨q1,q2,q3⟩=> ?_
 .simp[go_sem,q2]
  refine zK hf cB (zM ⟨zC rfl,zC rfl,trivial⟩) rfl ?_
  simp[go_sem]
  exact no _ (hno q1)
 .simp[go_sem,q2,q3]
  refine zK hf cB (zM ⟨zC rfl,zC rfl,trivial⟩) rfl ?_
  simp[go_sem]
  exact no _ (hno q1)
 .simp[go_sem,q2,q3]
  refine zD hw cB (zH rfl) rfl ?_
  refine(A7 b).elim (fun q=> ?_) (fun q=> ?_)
  .have hM:=hyes (q1.trans q)
   subst q
   subst hM
   simp[go_sem,ei]
   exact xB (s:=zO s) (zC rfl) ⟨rfl,rfl⟩
  .have hM:=hno (q1.trans q)
   subst q
   simp[go_sem]
   refine zK hf cB (zM ⟨zC rfl,zC rfl,trivial⟩) rfl ?_
   simp[go_sem]
   exact no _ hM
theorem yq2 (L:List GToken) (hL:LIn L) (s:RS) (hs:RIn L s):VCalls prog 45 [.ptr 0 0] [rB L s] (fun r σ=>r= .int .i64 (numF L s).1/\σ= [rB L (numF L s).2]):=by
 have ht:=zq2 L hL s hs
 have hf:=zF8 L s 13 (tokF L s).place
 have h1:=hs.at_
 have hl:=hL.len
 have ei:IntKind.i64.wrap ((s.at_:Int)+1)=((s.at_+1:Nat):Int):=by rw[i64_id (by omega) (by omega)];omega
 have hno:numB L s=false->numF L s=(0,wY 13 (tokF L s).place s):=fun h=>by unfold numF;rw[h];rfl
 have hyes:numB L s=true->numF L s=((tokF L s).n,zO s):=fun h=>by unfold numF;rw[h];rfl
 generalize numF L s=M at hno hyes⊢
 unfold numB at hno hyes
 obtain⟨t,htt⟩:=eX (tokF L s)
 rw[htt]at ht hf hno hyes
 have key:((s.err==0&&t.kind==2)=false/\(s.err !=0)=true)∨((s.err==0&&t.kind==2)=false/\(s.err !=0)=false/\(t.kind !=2)=true)∨((s.err==0&&t.kind==2)=true/\(s.err !=0)=false/\(t.kind !=2)=false):=by
  simp only[bne,Ck,Bool.not_eq_false']
  cases s.err==0<;>cases t.kind==2<;>simp
 have no: ∀τ:St,M=(0,wY 13 t.place s)->wret (some (.int .i64 0)) 1 (fun r σ=>r= .int .i64 M.1/\σ= [rB L M.2]) (rB L (wY 13 t.place s)::τ):=fun τ h=>by subst h;exact xB (zC rfl) ⟨rfl,rfl⟩
 refine iW 1 func45 ntmps45 results45 fun c hc hb=>zN ?_
 simp[go_sem]
 refine zK ht cB rd_1 rfl ?_
 simp[go_sem,rB]
 refine key.elim (fun⟨q1,q2⟩=> ?_) fun key=>key.elim (fun⟨q1,q2,q3⟩=> ?_) fun⟨q1,q2,q3⟩=> ?_
 .simp[go_sem,q2]
  refine zK hf cB (zM ⟨zC rfl,zC rfl,trivial⟩) rfl ?_
  simp[go_sem]
  exact no _ (hno q1)
 .simp[go_sem,q2,q3]
  refine zK hf cB (zM ⟨zC rfl,zC rfl,trivial⟩) rfl ?_
  simp[go_sem]
  exact no _ (hno q1)
 .have hM:=hyes q1
  subst hM
  simp[go_sem,q2,q3,ei]
  exact xB (s:=zO s) (zC rfl) ⟨rfl,rfl⟩
theorem zU7 (L:List GToken) (hL:LIn L) (s:RS) (hs:RIn L s) (ws:List (List UInt8)) (hw:ws.length<=1000):VCalls prog 38 [.ptr 0 0,.sl .ro (ws.map fun w=> [V.str w])] [rB L s] (fun r σ=>r= .str (anyF L s ws)/\σ= [rB L s]):=by
 generalize hM:anyF L s ws=M
 have ret: ∀(r:List UInt8) (τ:St),r=M->wret (some (.str r)) 1 (fun r σ=>r= .str M/\σ= [rB L s]) (rB L s::τ):=fun r τ h=>by subst h;exact xB (zC rfl) ⟨rfl,rfl⟩
 refine iV 1 func38 ntmps38 results38 fun c hc hb=> ?_
 refine zA ?_
 simp[go_sem]
 refine zL (S:=Nat) [0,1,5] (fun i=> [.ptr 0 0,.sl .ro (ws.map fun w=> [V.str w]),.int .i64 i]) (fun _=> [rB L s]) (fun i=>ws.length - i) (fun i=>i<=ws.length/\anyF L s (ws.drop i)=M) hc hb 0 ⟨A3 _,hM⟩ ?_ ?_
 .exact at_n 1 (by simp[go_sem,rB]) rfl (by simp[zL1]) (A2 _) (zG (by simp[go_sem]) rfl)
 rintro i ⟨hi,hinv⟩
 by_cases q:i<ws.length
 rotate_left
 .rw[A9 (by omega)]at hinv
  refine zA ?_
  simp[go_sem,q]
  exact ret _ _ hinv
 have ei:=zV q (by omega)
 obtain⟨w,hx⟩:=eX (ws[i])
 rw[A6 q,hx,anyF]at hinv
 have hiw:=is_w L hL s hs w
 obtain⟨b,hb1⟩:=eX (isT L w s)
 rw[hb1]at hiw hinv
 refine zA ?_
 simp[go_sem,q,hx]
 refine zK hiw cB (zM ⟨zC rfl,trivial⟩) rfl ?_
 simp[go_sem]
 refine zT (fun w1=> ?_) (fun w1=> ?_)
 .rw[if_pos w1]at hinv
  simp[go_sem,q,hx]
  exact ret _ _ hinv
 .rw[if_neg (by rw[w1];decide)]at hinv
  simp[go_sem,ei]
  exact zI (i+1) ⟨by omega,⟨q,hinv⟩,at_n 1 rfl rfl (by simp[zL1]) (A2 _) (zG (by simp[go_sem]) rfl)⟩
theorem zM7 (L:List GToken) (hL:LIn L) (s:RS) (hs:RIn L s) (h200:s.opn<=1000):VCalls prog 233 [.ptr 0 0] [rB L s] (fun r σ=>r= .bool ((yQ L s).err==0)/\σ= [rB L (yQ L s)]):=by
 have ho:=hs.opn
 have ht:=zq2 L hL {s with opn:=s.opn+1} ⟨hs.at_,by simp only;omega⟩
 have e0:tokF L {s with opn:=s.opn+1}=tokF L s:=rfl
 rw[e0]at ht
 have hf:=zF8 L {s with opn:=s.opn+1} 3 (tokF L s).place
 have ei:IntKind.i64.wrap (s.opn+1)=s.opn+1:=by rw[i64_id (by omega) (by omega)]
 refine iW 1 func233 ntmps233 results233 fun c hc hb=>zN ?_
 simp[go_sem,rB,ei]
 by_cases q1:s.err=0
 .have q1':(s.err==0)=true:=by simpa using q1
  by_cases q2:s.opn+1>200
  .have q2':decide (200<s.opn+1)=true:=decide_eq_true (by omega)
   have hS:yQ L s=wY 3 (tokF L s).place {s with opn:=s.opn+1}:=by unfold yQ wY;rw[if_pos ⟨q1,q2⟩,if_pos q1]
   rw[hS]
   simp[go_sem,q1',q2']
   refine zK ht cB rd_1 rfl ?_
   simp[go_sem]
   refine zK hf cB (zM ⟨zC rfl,zC rfl,trivial⟩) rfl ?_
   unfold wY
   rw[if_pos q1]
   simp[go_sem,rB]
   exact xB (L:=L) (s:={s with opn:=s.opn+1,err:=3,place:=(tokF L s).place}) (zC rfl) ⟨rfl,rfl⟩
  .have q2':decide (200<s.opn+1)=false:=decide_eq_false (by omega)
   have hS:yQ L s={s with opn:=s.opn+1}:=by unfold yQ;rw[if_neg (fun h=>q2 h.2)]
   rw[hS]
   simp[go_sem,q1',q2']
   exact xB (L:=L) (s:={s with opn:=s.opn+1}) (zC rfl) ⟨rfl,rfl⟩
 .have q1':(s.err==0)=false:=by simpa using q1
  have hS:yQ L s={s with opn:=s.opn+1}:=by unfold yQ;rw[if_neg (fun h=>q1 h.1)]
  rw[hS]
  simp[go_sem,q1']
  exact xB (L:=L) (s:={s with opn:=s.opn+1}) (zC rfl) ⟨rfl,rfl⟩
theorem yF0:Pure prog 235 [] (.sl .ro [[.sl .ro [[.str [79,82]]]],[.sl .ro [[.str [65,78,68]]]]]):=by
 refine iW 0 func235 ntmps235 results235 fun c hc hb=>zN ?_
 simp[go_sem]
 exact zQ zX ⟨rfl,rfl⟩
mutual
def wB:GExpr->Nat
 | .mk _ _ _ args=>xZ args+1
def xZ:List GExpr->Nat
 | []=>0
 |e::l=>max (wB e) (xZ l)
end
theorem zj0 (e:GExpr):wB e=xZ e.args+1:=by cases e;rw[wB];rfl
theorem zk9: ∀(l:List GExpr) (e:GExpr),e∈l->wB e<=xZ l
 | [],_,h=>by simp at h
 |x::l,e,h=>by
  rw[xZ]
  rcases Ag.1 h with rfl|h
  .omega
  .have:=zk9 l e h;omega
inductive Wide:GExpr->Prop
 |mk (e:GExpr) (h:e.args.length<=1000000) (ha: ∀x∈e.args,Wide x):Wide e
theorem Wide.len {e:GExpr} (h:Wide e):e.args.length<=1000000:=by cases h;assumption
theorem Wide.sub {e:GExpr} (h:Wide e): ∀x∈e.args,Wide x:=by cases h;assumption
def maxD (l:List GExpr) (d:Nat):Nat:=l.foldl (fun d e=>max d (wB e)) d
theorem yY0: ∀(l:List GExpr) (d:Nat),maxD l d=max d (xZ l)
 | [],d=>by simp[maxD,xZ]
 |e::l,d=>by
  have:=yY0 l (max d (wB e))
  unfold maxD at this⊢
  rw[Be,this,xZ]
  omega
theorem xk6: ∀(n:Nat) (e:GExpr),wB e<=n->n<=1000000->Wide e->Pure prog 247 [.agg e.row] (.int .i64 (wB e:Int))
 |0,e,h,_,_=>by rw[zj0]at h;omega
 |n+1,e,h,hn,hw=>by
  have ih:=xk6 n
  have hde:=zj0 e
  obtain⟨args,hargs⟩:=eX e.args
  have hlen:=hw.len
  have hsub:=hw.sub
  rw[hargs]at hde hlen hsub
  obtain⟨D,hD⟩:=eX (wB e)
  rw[hD]at hde h⊢
  refine iV 0 func247 ntmps247 results247 fun c hc hb=> ?_
  refine zA ?_
  simp[go_sem]
  refine zL (S:=Nat×Nat) [1,3,4] (fun u=> [.ptr 0 0,.int .i64 (u.2:Int),.int .i64 (u.1:Int)]) (fun _=> [.box e.row]) (fun u=>args.length - u.1) (fun u=>u.1<=args.length/\maxD (args.drop u.1) u.2=xZ args/\u.2<=n) hc hb (0,0) ⟨A3 _,by simp[yY0],A3 _⟩ ?_ ?_
  .exact aN 1 (by simp[ltOb,ltC,ltK,GExpr.row_eq])
  rintro⟨i,d⟩ ⟨hi,hinv,hdn⟩
  simp only at hi hinv hdn
  by_cases q:i<args.length
  rotate_left
  .rw[A9 (by omega)]at hinv
   have hdd:d=xZ args:=hinv
   have ei:IntKind.i64.wrap ((d:Int)+1)=(D:Int):=by rw[i64_id (by omega) (by omega)];omega
   refine zA ?_
   simp[go_sem,q,hargs,ei]
   exact zQ (zC rfl) ⟨rfl,rfl⟩
  have ei:=zV q (by omega)
  obtain⟨x,hx⟩:=eX (args[i])
  have hxm:x∈args:=hx▸A8 q
  have hdx:=zk9 args x hxm
  rw[A6 q,hx]at hinv
  have hdw:=ih x (by omega) (by omega) (hsub x hxm)
  have hinv2:maxD (args.drop (i+1)) (max d (wB x))=xZ args:=hinv
  obtain⟨dx,hdxe⟩:=eX (wB x)
  rw[hdxe]at hdw hinv2 hdx
  refine zA ?_
  simp[go_sem,q,hargs,hx]
  refine zD hdw cB (zR (by simp[go_sem]) (by rw[GExpr.row_eq];rfl)) rfl ?_
  simp[go_sem,ei]
  refine zI (i+1,max d dx) ⟨by simp only;omega,⟨by simp only;omega,hinv2,by simp only;omega⟩, ?_⟩
  refine at_n 1 (by simp[go_sem,hargs]) rfl (by simp[ltOb,ltC,ltK,GExpr.row_eq]) (A3 _) (zG ?_ rfl)
  simp[go_sem]
  split<;>omega
abbrev PR:=GExpr×RS
def zeroE:GExpr:= .mk 0 [] ⟨0,0,[]⟩ []
def opE (w:List UInt8) (args:List GExpr):GExpr:= .mk 3 w ⟨0,0,[]⟩ args
def valE (v:GValue):GExpr:= .mk 1 [] v []
def namE (w:List UInt8):GExpr:= .mk 2 w ⟨0,0,[]⟩ []
def opS (place:Int) (w:List UInt8) (args:List GExpr) (s:RS):RS:=if s.err=0/\16<wB (opE w args)then wY 3 place s else s
def opF (place:Int) (w:List UInt8) (args:List GExpr) (s:RS):PR:=(opE w args,opS place w args s)
def ze5 (L:List GToken) (k:RS->PR) (s:RS):PR:=if(yQ L s).err=0 then((k (yQ L s)).1,outF (k (yQ L s)).2)else(zeroE,outF (yQ L s))
def opsF (L:List GToken) (ws:List (List UInt8)) (sub:RS->PR):Nat->PR->PR
 |0,x=>x
 |n+1,x=>if anyF L x.2 ws= []then x else opsF L ws sub n (opF (tokF L x.2).place (anyF L x.2 ws) [x.1,(sub (zO x.2)).1] (sub (zO x.2)).2)
def wOR:List UInt8:= [79,82]
def wAND:List UInt8:= [65,78,68]
def wNOT:List UInt8:= [78,79,84]
def wIS:List UInt8:= [73,83]
def zq5:List UInt8:= [78,85,76,76]
def ya1:List UInt8:= [73,83,78,85,76,76]
def zQ6:List UInt8:= [78,79,84,78,85,76,76]
def signsC:List (List UInt8):= [[61],[60,62],[60],[60,61],[62],[62,61]]
def zl1:List (List UInt8):= [[43],[45]]
def zl0:List (List UInt8):= [[42],[47],[37]]
def notK (L:List GToken) (rn rc:RS->PR) (s:RS):PR:=if isT L wNOT s=true then opF (tokF L s).place wNOT [(rn (zO s)).1] (rn (zO s)).2 else rc s
def cmpJ (L:List GToken) (sub:RS->PR) (x:PR):PR:=
 if isT L wIS x.2=true then
  if isT L wNOT (zO x.2)=true then opF (tokF L x.2).place zQ6 [x.1] (yD L zq5 (zO (zO x.2)))else opF (tokF L x.2).place ya1 [x.1] (yD L zq5 (zO x.2))
 else if anyF L x.2 signsC= []then x else opF (tokF L x.2).place (anyF L x.2 signsC) [x.1,(sub (zO x.2)).1] (sub (zO x.2)).2
def zF1 (L:List GToken) (un ex:RS->PR) (s:RS):PR:=
 if isT L [45] s=true then opF (tokF L s).place [78,69,71] [(un (zO s)).1] (un (zO s)).2
 else if isT L [40] s=true then((ex (zO s)).1,yD L [41] (ex (zO s)).2)
 else if isT L [84,82,85,69] s=true then(valE ⟨1,1,[]⟩,zO s)
 else if isT L [70,65,76,83,69] s=true then(valE ⟨1,0,[]⟩,zO s)
 else if isT L zq5 s=true then(valE ⟨0,0,[]⟩,zO s)
 else if(tokF L s).kind=2 then(valE ⟨2,(tokF L s).n,[]⟩,zO s)
 else if(tokF L s).kind=3 then(valE ⟨3,0,(tokF L s).s⟩,zO s)
 else(namE (yW L s).1,(yW L s).2)
def zg1 (L:List GToken) (rec:Nat->RS->PR):Nat->RS->PR
 |0,s=>opsF L [wOR] (rec 1) L.length (rec 1 s)
 |1,s=>opsF L [wAND] (rec 2) L.length (rec 2 s)
 |2,s=>notK L (rec 2) (rec 3) s
 |3,s=>cmpJ L (rec 4) (rec 4 s)
 |4,s=>opsF L zl1 (rec 5) L.length (rec 5 s)
 |5,s=>opsF L zl0 (rec 6) L.length (rec 6 s)
 |_,s=>zF1 L (rec 6) (rec 0) s
def pF (L:List GToken):Nat->Nat->RS->PR
 |0,_,s=>(zeroE,s)
 |f+1,w,s=>ze5 L (zg1 L (pF L f) w) s
structure PI (L:List GToken) (s:RS) (x:PR):Prop where
 rin:RIn L x.2
 opn:x.2.opn=s.opn
 up:s.at_<=x.2.at_
 err:x.2.err=0->s.err=0/\wB x.1<=16
 wide:Wide x.1
theorem zl6 {e p:Int} {s:RS} (he:e≠0):(wY e p s).err≠0:=by unfold wY;split<;>simp_all
theorem zF7 (e p:Int) (s:RS):(wY e p s).at_=s.at_:=by unfold wY;split<;>rfl
theorem zz4 (e p:Int) (s:RS):(wY e p s).opn=s.opn:=by unfold wY;split<;>rfl
theorem ye0 {L:List GToken} {s:RS} (h:RIn L s) (e p:Int):RIn L (wY e p s):=⟨by rw[zF7];exact h.at_,by rw[zz4];exact h.opn⟩
theorem zM2 (p:Int) (w:List UInt8) (a:List GExpr) (s:RS):(opS p w a s).at_=s.at_:=by unfold opS;split;exact zF7 _ _ _;rfl
theorem zZ1 (p:Int) (w:List UInt8) (a:List GExpr) (s:RS):(opS p w a s).opn=s.opn:=by unfold opS;split;exact zz4 _ _ _;rfl
theorem yw9 {p:Int} {w:List UInt8} {a:List GExpr} {s:RS} (h:(opS p w a s).err=0):s.err=0/\wB (opE w a)<=16:=by
 unfold opS at h
 split at h
 .exact absurd h (zl6 (by decide))
 .rename_i hc
  refine⟨h, ?_⟩
  by_cases q:16<wB (opE w a)
  .exact absurd ⟨h,q⟩ hc
  .omega
theorem xR2 {L:List GToken} {s:RS} (h:RIn L s) (p:Int) (w:List UInt8) (a:List GExpr):RIn L (opS p w a s):=⟨by rw[zM2];exact h.at_,by rw[zZ1];exact h.opn⟩
theorem yZ1 (p:Int) (w:List UInt8) (a:List GExpr) (s:RS):opS p w a (outF s)=outF (opS p w a s):=by
 unfold opS wY outF
 by_cases q:s.err=0/\16<wB (opE w a)
 .rw[if_pos q,if_pos q,if_pos q.1,if_pos q.1]
 .rw[if_neg q,if_neg q]
theorem xn4 (w:List UInt8) (a:List GExpr):wB (opE w a)=xZ a+1:=zj0 _
theorem xc0 {w:List UInt8} {a:List GExpr} (h:a.length<=1000000) (ha: ∀x∈a,Wide x):Wide (opE w a):= .mk _ h ha
theorem xA1 {e:GExpr} (h:e.args= []):Wide e:= .mk _ (by simp[h]) (by simp[h])
def RR (L:List GToken) (x:PR):V->St->Prop:=fun r σ=>r= .agg x.1.row/\σ= [rB L x.2]
theorem xY {τ:St} {L:List GToken} {e:GExpr} {s:RS} {x:PR} (h:x=(e,s)):wret (some (.agg [.int .i64 e.kind,.str e.s,.int .i64 e.v.kind,.int .i64 e.v.n,.str e.v.s,.sl .ro (e.args.map GExpr.row)])) 1 (RR L x) (rB L s::τ):=by
 subst h
 exact xB (zC rfl) ⟨by rw[GExpr.row_eq],rfl⟩
theorem yY6 (e:GExpr):noS (.agg e.row)=true:=by rw[GExpr.row_eq];rfl
theorem wX {P:Program} {c:Ctx} {f:FuncId} {caps args args':List V} {τ:St} {L:List GToken} {s:RS} {x:PR} {KV:V->St->Prop} (hc:VCalls P f args' [rB L s] (RR L x)) (hb:wS P f=true)
  (hargs:All2 (argS (ren [0] (τ.length+1))) args' (args++caps)) (hk:KV (.agg x.1.row) (rB L x.2::τ)):wVC P c (.fn f caps) args (rB L s::τ) KV fx:=
 zK hc hb hargs (yY6 _) hk
theorem zr1 {P:Program} {c:Ctx} {n:Nat} {f:FuncId} {caps args args':List V} {τ:St} {L:List GToken} {s:RS} {x:PR} {KV:V->St->Prop} (hc:VCalls P f args' [rB L s] (RR L x)) (hb:wS P f=true)
  (hargs:All2 (argS (ren [0] (τ.length+1))) args' (args++caps)) (hk:KV (.agg x.1.row) (rB L x.2::τ)):wVD P c ⟨1,n,[],none⟩ 3 (.fn f caps) args (rB L s::τ) KV fx:=
 zv6 hc hb hargs (yY6 _) hk
theorem op_w (L:List GToken) (s:RS) (p:Int) (w:List UInt8) (a:List GExpr) (hl:a.length<=1000) (hw: ∀x∈a,Wide x) (hd:s.err=0->xZ a<=1000):
  VCalls prog 236 [.ptr 0 0,.int .i64 p,.str w,.sl .ro (a.map GExpr.row)] [rB L s] (RR L (opF p w a s)):=by
 obtain⟨D,hD⟩:=eX (wB (opE w a))
 have hDd:=xn4 w a
 rw[hD]at hDd
 have hf:=zF8 L s 3 p
 have hS:opF p w a s=(opE w a,if s.err=0/\16<D then wY 3 p s else s):=by unfold opF opS;rw[hD]
 generalize opF p w a s=M at hS⊢
 refine iW 1 func236 ntmps236 results236 fun c hc hb=>zN ?_
 by_cases q1:s.err=0
 .have q1':(s.err==0)=true:=by simpa using q1
  have hdp:=xk6 1001 (opE w a) (by rw[hD,hDd];have:=hd q1;omega) (by omega) (xc0 (by omega) hw)
  rw[hD]at hdp
  simp[go_sem,rB,q1']
  refine zD hdp cB (zR (by rw[GExpr.row_eq];rfl) rfl) rfl ?_
  simp[go_sem]
  by_cases q2:16<D
  .have q2':decide ((16:Int)<(D:Int))=true:=decide_eq_true (by omega)
   rw[if_pos ⟨q1,q2⟩]at hS
   simp[go_sem,q2']
   refine zK hf cB (zM ⟨zC rfl,zC rfl,trivial⟩) rfl ?_
   simp[go_sem]
   exact xY hS
  .have q2':decide ((16:Int)<(D:Int))=false:=decide_eq_false (by omega)
   rw[if_neg (fun h=>q2 h.2)]at hS
   simp[go_sem,q2']
   exact xY hS
 .have q1':(s.err==0)=false:=by simpa using q1
  rw[if_neg (fun h=>q1 h.1)]at hS
  simp[go_sem,rB,q1']
  exact xY hS
end Go.Proofs.YtkigddpaonhmlaaGreat
