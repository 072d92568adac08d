/-
  The document's reader of expressions: the walks of its chains, over trees (the library Vx); used by the theorem at the end of the claim.
  Conditions: as each theorem states them.
-/
import Derived.Test.YtefbicjgbaaieaaGreatKAG
import Derived.Test.YtefbicjgbaaieaaGreatKAH
set_option maxHeartbeats 8000000
namespace Go.Proofs.YtefbicjgbaaieaaGreat
open Go Go.Vx Go.Proofs.Tryz
set_option maxRecDepth 100000
variable {τ:St}{P:Program}{c:Ctx}{f:FuncId}{caps:List V}{args':List V}{KV:V->St->Prop}
def xj2 (s:List UInt8):List UInt8:=if s= [60]then [62]else if s= [60,61]then [62,61]else if s= [62]then [60]else if s= [62,61]then [60,61]else s
theorem xI1 (s:List UInt8):Pure prog 180 [.str s] (.str (xj2 s)):=by
 generalize hM:xj2 s=M
 have ret: ∀(r:List UInt8) (σ:St),r=M->wret (some (.str r)) 0 (fun r s=>r= .str M/\s= []) σ:=fun r σ h=>by subst h;exact wR
 unfold xj2 at hM
 refine iW 0 func180 ntmps180 results180 fun c hc hb=>zL ?_
 simp[go_sem]
 repeat' (first|(refine xE (fun q=> ?_) (fun q=> ?_)<;>simp[go_sem,q])|(refine zR (fun q=> ?_) (fun q=> ?_)<;>simp[go_sem,q]))
 all_goals exact ret _ _ (by simp_all)
def opsTwo:List (List UInt8):= [[79,82],[65,78,68],[61],[60,62],[60],[60,61],[62],[62,61],[43],[45],[42],[47],[37]]
def opsOne:List (List UInt8):= [[78,79,84],[73,83,78,85,76,76],[78,79,84,78,85,76,76],[78,69,71]]
def zF8 (s:List UInt8):Int:=if opsTwo.contains s=true then 2 else if opsOne.contains s=true then 1 else 0
def zA1 (b:Bool):GValue:=⟨1,if b then 1 else 0,[]⟩
theorem zM1 (b:Bool):Pure prog 226 [.bool b] (.agg (zA1 b).row):=by
 refine iW 0 func226 ntmps226 results226 fun c hc hb=>zL ?_
 simp[go_sem]
 cases b<;>simp[go_sem]<;>exact wR
theorem yC1 (v:GValue):Pure prog 314 [.agg v.row] (.bool (v.kind==0)):=by
 refine iW 0 func314 ntmps314 results314 fun c hc hb=>zL ?_
 simp[go_sem]
 exact wR
def zT3 (many such:Bool) (k:Int):Int×Int:=if many=false then(0,9)else if such=false then(0,15)else(k,0)
def wC (r:Int×Int):V:= .tup [.int .i64 r.1,.int .i64 r.2]
theorem wO {r:Int×Int} {a e:Int} {σ:St} (h:r=(a,e)):wret (some (.tup [.int .i64 a,.int .i64 e])) 0 (fun v s=>v=wC r/\s= []) σ:=by
 subst h
 exact wR
theorem yE1 (many aa:Bool) (k:Int):Pure prog 347 [.bool many,.bool aa,.int .i64 k] (wC (zT3 many aa k)):=by
 refine iW 0 func347 ntmps347 results347 fun c hc hb=>zL ?_
 cases many<;>cases aa<;>simp[go_sem]<;>exact wO rfl
def allK (l:List Int) (k:Int):Bool:=l.all fun x=>x==k||x==0
theorem xb3 (l:List Int) (k:Int) (hl:l.length<=maxLen):Pure prog 348 [.sl .ro (l.map fun n=> [V.int .i64 n]),.int .i64 k] (.bool (allK l k)):=by
 generalize hM:allK l k=M
 have ret: ∀(r:Bool) (σ:St),r=M->wret (some (.bool r)) 0 (fun r s=>r= .bool M/\s= []) σ:=fun r σ h=>by subst h;exact wR
 unfold allK at hM
 refine iV 0 func348 ntmps348 results348 fun c hc hb=> ?_
 refine zA ?_
 simp[go_sem]
 refine zH (S:=Nat) [1,7,8,9] (fun i=> [.int .i64 k,.sl .ro (l.map fun n=> [V.int .i64 n]),.int .i64 l.length,.int .i64 i]) (fun _=> []) (fun i=>l.length - i) (fun i=>i<=l.length/\((l.drop i).all fun x=>x==k||x==0)=M) hc hb 0 ⟨A4 _,hM⟩ ?_ ?_
 .exact aO
 rintro i ⟨hi,hinv⟩
 by_cases q:i<l.length
 rotate_left
 .have e:l.drop i= []:=Ab om
  rw[e]at hinv
  refine zA ?_
  simp[go_sem,q]
  exact ret _ _ hinv
 have ei:=zQ q (by unfold maxLen at hl;omega)
 obtain⟨r,hr⟩:=eX (l[i])
 rw[A8 q,Ar,hr]at hinv
 refine zA ?_
 simp[go_sem,q,hr]
 by_cases w1:r=k
 .simp[go_sem,w1,ei]
  rw[w1,beq_self_eq_true,Dx,B5]at hinv
  exact zG (i+1) ⟨om,⟨q,hinv⟩,aO⟩
 have aa:(r !=k)=true:=by simpa using w1
 by_cases w2:r=0
 .have w3:(r !=0)=false:=by simp[w2]
  simp[go_sem,aa,w3,ei]
  rw[w2,beq_self_eq_true,Ep,B5]at hinv
  exact zG (i+1) ⟨om,⟨q,hinv⟩,aO⟩
 have ab:(r !=0)=true:=by simpa using w2
 simp[go_sem,aa,ab]
 exact ret _ _ (by rw[<-hinv,show(r==k)=false by simpa using w1,show(r==0)=false by simpa using w2];rfl)
def zv8 (s:List UInt8) (l:List Int):Int×Int:=
 if s= [73,83,78,85,76,76]∨s= [78,79,84,78,85,76,76]then zT3 ((l.length:Int)==1) true 1
 else if s= [78,79,84]then zT3 ((l.length:Int)==1) (allK l 1) 1
 else if s= [78,69,71]then zT3 ((l.length:Int)==1) (allK l 2) 2
 else if s= [79,82]∨s= [65,78,68]then zT3 ((l.length:Int)==2) (allK l 1) 1
 else if s= [43]∨s= [45]∨s= [42]∨s= [47]∨s= [37]then zT3 ((l.length:Int)==2) (allK l 2) 2
 else if s= [61]∨s= [60,62]∨s= [60]∨s= [60,61]∨s= [62]∨s= [62,61]then
  zT3 ((l.length:Int)==2) ((l.length:Int)==2&&(l.getD 0 0==l.getD 1 0||(l.getD 0 0==0||l.getD 1 0==0))) 1
 else(0,9)
theorem yO0 (s:List UInt8) (x y:Int):Pure prog 313 [.str s,.sl .ro [[.int .i64 x],[.int .i64 y]]] (wC (zv8 s [x,y])):=by
 generalize hM:zv8 s [x,y]=M
 have ret: ∀(r:Int×Int) (σ:St),r=M->wret (some (.tup [.int .i64 r.1,.int .i64 r.2])) 0 (fun r s=>r=wC M/\s= []) σ:=fun r σ h=>by subst h;exact wR
 unfold zv8 at hM
 have h1:=xb3 [x,y] 1 (by unfold maxLen;simp)
 have h2:=xb3 [x,y] 2 (by unfold maxLen;simp)
 simp only[Aj,Bx]at h1 h2
 generalize allK [x,y] 1=a1 at h1 hM
 generalize allK [x,y] 2=a2 at h2 hM
 simp only[List.getD_cons_zero,List.getD_cons_succ]at hM
 refine iW 0 func313 ntmps313 results313 fun c hc hb=>zL ?_
 simp[go_sem]
 repeat' (first
  |(refine zR (fun q=> ?_) (fun q=> ?_)<;>simp[go_sem,q])
  |(refine xE (fun q=> ?_) (fun q=> ?_)<;>simp[go_sem,q])
  |(refine yS [(23,0)] 0 rfl kR kR ?_;simp[go_sem])
  |(refine pC h1 ?_;simp[go_sem])
  |(refine pC h2 ?_;simp[go_sem])
  |(refine pC (yE1 _ _ _) ?_;simp[go_sem,wC])
  |(refine pD (yE1 _ _ _) ?_;simp[go_sem,wC]))
 all_goals first|exact ret _ _ (by simp_all)|exact ret (0,9) _ (by simp_all)
theorem yO1 (s:List UInt8) (l:List Int) (hl:l.length<=maxLen) (hn:((l.length:Int)==2)=false):Pure prog 313 [.str s,.sl .ro (l.map fun n=> [V.int .i64 n])] (wC (zv8 s l)):=by
 generalize hM:zv8 s l=M
 have ret: ∀(r:Int×Int) (σ:St),r=M->wret (some (.tup [.int .i64 r.1,.int .i64 r.2])) 0 (fun r s=>r=wC M/\s= []) σ:=fun r σ h=>by subst h;exact wR
 unfold zv8 at hM
 have h1:=xb3 l 1 hl
 have h2:=xb3 l 2 hl
 generalize allK l 1=a1 at h1 hM
 generalize allK l 2=a2 at h2 hM
 simp only[hn,Eh]at hM
 refine iW 0 func313 ntmps313 results313 fun c hc hb=>zL ?_
 simp[go_sem]
 repeat' (first
  |(refine zR (fun q=> ?_) (fun q=> ?_)<;>simp[go_sem,q,hn])
  |(refine yS [(23,0)] 0 rfl kR kR ?_;simp[go_sem])
  |(refine pC h1 ?_;simp[go_sem])
  |(refine pC h2 ?_;simp[go_sem])
  |(refine pC (yE1 _ _ _) ?_;simp[go_sem,wC])
  |(refine pD (yE1 _ _ _) ?_;simp[go_sem,wC]))
 all_goals first|exact ret _ _ (by simp_all)|exact ret (0,9) _ (by simp_all)
theorem yX2 (s:List UInt8) (l:List Int) (hl:l.length<=maxLen):Pure prog 313 [.str s,.sl .ro (l.map fun n=> [V.int .i64 n])] (wC (zv8 s l)):=by
 by_cases h:l.length=2
 .match l,h with
  | [x,y],_=>exact yO0 s x y
 .exact yO1 s l hl (by simpa using (show ¬(l.length:Int)=2 by omega))
theorem zm0 {ρ:Nat->Nat} {g:Tag} {rows rows':List (List V)} (h:rows'=rows):argS ρ (.sl .ro rows') (.sl g rows):=by subst h;exact zK
theorem yE4 {n:Int} (h:0<=n) (h2:n<=255):IntKind.u8.wrap n=n:=by
 unfold IntKind.wrap
 simp[IntKind.bits,IntKind.signed]
 omega
def yL (c:UInt8):UInt8:=if 97<=c.toNat/\c.toNat<=122 then UInt8.ofNat (c.toNat - 32)else c
def wJ (c:UInt8):Bool:=decide (48<=c.toNat/\c.toNat<=57)
def za3 (c:UInt8):Bool:=decide (65<=(yL c).toNat/\(yL c).toNat<=90)||decide (c.toNat=95)
theorem yA4 (c:UInt8):Pure prog 205 [.int .u8 c.toNat] (.int .u8 (yL c).toNat):=by
 have hc:=c.toNat_lt
 have ret: ∀(r:Int) (σ:St),r=((yL c).toNat:Int)->wret (some (.int .u8 r)) 0 (fun r s=>r= .int .u8 (yL c).toNat/\s= []) σ:=fun r σ h=>by subst h;exact wR
 unfold yL at ret⊢
 obtain⟨n,hn⟩:=eX c.toNat
 have aa:n<=255->(UInt8.ofNat (n - 32)).toNat=n - 32:=fun h=>by
  rw[UInt8.toNat_ofNat'];exact Ct om
 rw[hn]at hc ret⊢
 refine iW 0 func205 ntmps205 results205 fun c hc hb=>zL ?_
 simp[go_sem]
 refine xE (fun q=> ?_) (fun q=> ?_)
 .have q1:97<=n:=by simp at q;omega
  simp[go_sem,q]
  refine zR (fun q2=> ?_) (fun q2=> ?_)
  .have q2:n<=122:=by simp at q2;omega
   have e1:IntKind.u8.wrap ((n:Int) - 97)=(n:Int) - 97:=yE4 om om
   have e2:IntKind.u8.wrap ((n:Int) - 97+65)=(n:Int) - 97+65:=yE4 om om
   simp[go_sem,e1,e2]
   exact ret _ _ (by rw[if_pos ⟨q1,q2⟩,aa om];omega)
  .have q2: ¬n<=122:=by simp at q2;omega
   simp[go_sem]
   exact ret _ _ (by rw[if_neg (fun h=>q2 h.2),hn])
 .have q1: ¬97<=n:=by simp at q;omega
  simp[go_sem,q]
  exact ret _ _ (by rw[if_neg (fun h=>q1 h.1),hn])
theorem zw1 (c:UInt8):Pure prog 204 [.int .u8 c.toNat] (.bool (wJ c)):=by
 unfold wJ
 generalize c.toNat=n
 generalize hM:decide (48<=n/\n<=57)=M
 have ret: ∀(r:Bool) (σ:St),r=M->wret (some (.bool r)) 0 (fun r s=>r= .bool M/\s= []) σ:=fun r σ h=>by subst h;exact wR
 refine iW 0 func204 ntmps204 results204 fun c hc hb=>zL ?_
 simp[go_sem]
 refine xE (fun q=> ?_) (fun q=> ?_)
 .simp[go_sem,q]
  refine ret _ _ ?_
  rw[<-hM]
  simp at q
  exact decide_eq_decide.2 om
 .simp[go_sem,q]
  refine ret _ _ ?_
  rw[<-hM]
  simp at q
  exact(decide_eq_false om).symm
theorem zy6 (c:UInt8):Pure prog 203 [.int .u8 c.toNat] (.bool (za3 c)):=by
 have hg:=yA4 c
 unfold za3
 revert hg
 generalize (yL c).toNat=g
 generalize c.toNat=n
 generalize hM:(decide (65<=g/\g<=90)||decide (n=95))=M
 have ret: ∀(r:Bool) (σ:St),r=M->wret (some (.bool r)) 0 (fun r s=>r= .bool M/\s= []) σ:=fun r σ h=>by subst h;exact wR
 have aa: ∀(a:Nat) (b:Bool),((a:Int)==95)=b->decide (a=95)=b:=fun a b h=>by
  rw[<-h]
  by_cases q:a=95
  .subst q;rfl
  .rw[decide_eq_false q]
   exact(beq_eq_false_iff_ne.2 om).symm
 intro hg
 refine iW 0 func203 ntmps203 results203 fun c hc hb=>zL ?_
 simp[go_sem]
 refine pC hg ?_
 simp[go_sem]
 refine xE (fun q=> ?_) (fun q=> ?_)
 .simp[go_sem,q]
  refine pC hg ?_
  simp[go_sem]
  simp at q
  refine xE (fun q2=> ?_) (fun q2=> ?_)
  .have q3: ¬g<=90:=by simp at q2;omega
   simp[go_sem,q2]
   exact ret _ _ (by rw[<-hM,decide_eq_false (fun h=>q3 h.2),Cb];exact(aa n _ rfl).symm)
  .have q3:g<=90:=by simp at q2;omega
   simp[go_sem,q2]
   exact ret _ _ (by rw[<-hM,decide_eq_true ⟨om,q3⟩];rfl)
 .have q3: ¬65<=g:=by simp at q;omega
  simp[go_sem,q]
  exact ret _ _ (by rw[<-hM,decide_eq_false (fun h=>q3 h.1),Cb];exact(aa n _ rfl).symm)
def resv:List (List UInt8):= [[65,76,76],[65,78,68],[65,83],[65,83,67],[66,69,84,87,69,69,78],[66,79,85,78,68],[66,89],[67,79,85,78,84],[68,69,76,69,84,69],[68,69,83,67],[69,88,65,67,84],[70,65,76,83,69],[70,82,79,77],[73,78,83,69,82,84],[73,78,84,79],[73,83],[76,73,77,73,84],[78,79,84],[78,85,76,76],[78,79,87],[79,70],[79,82],[79,82,68,69,82],[83,69,76,69,67,84],[83,69,84],[83,85,77],[83,89,83,84,69,77],[84,73,77,69],[84,82,85,69],[85,80,68,65,84,69],[86,65,76,85,69,83],[87,72,69,82,69]]
theorem zS3:resv.length=32:=rfl
theorem yT1:Pure prog 249 [] (.sl .ro (resv.map fun s=> [.str s])):=by
 refine iW 0 func249 ntmps249 results249 fun c hc hb=>zL ?_
 simp[go_sem]
 exact wG (zm0 (by simp[resv])) ⟨rfl,rfl⟩
def okC (c:UInt8):Bool:=(za3 c||wJ c)&&(yL c==c)
def zl0 (s:List UInt8):Bool:=decide (1<=s.length/\s.length<=16)&&(!wJ (s.headD 0)&&(s.all okC&& !resv.contains s))
theorem zW8 (s:List UInt8) (hl:s.length<=maxLen):Pure prog 170 [.str s] (.bool (zl0 s)):=by
 generalize hM:zl0 s=M
 unfold zl0 at hM
 have ret: ∀(r:Bool) (σ:St),r=M->wret (some (.bool r)) 0 (fun r s=>r= .bool M/\s= []) σ:=fun r σ h=>by subst h;exact wR
 refine iV 0 func170 ntmps170 results170 fun c hc hb=> ?_
 refine zA ?_
 simp[go_sem]
 by_cases h0:s.length=0
 .have ae:((s.length:Int)==0)=true:=by simpa using h0
  simp[go_sem,ae]
  exact ret _ _ (by rw[<-hM,decide_eq_false om];rfl)
 have ae:((s.length:Int)==0)=false:=by simpa using h0
 simp[go_sem,ae]
 by_cases ag:s.length<=16
 rotate_left
 .have ad:decide (16<(s.length:Int))=true:=by simp;omega
  simp[go_sem,ad]
  exact ret _ _ (by rw[<-hM,decide_eq_false om];rfl)
 have ad:decide (16<(s.length:Int))=false:=by simp;omega
 rw[decide_eq_true ⟨om,ag⟩,B5]at hM
 have hp:0<s.length:=om
 obtain⟨c0,af⟩: ∃c,s[0]=c:=⟨_,rfl⟩
 have ah:s.headD 0=c0:=by
  rw[<-af]
  cases s with
  |nil=>simp at hp
  |cons x l=>rfl
 rw[ah]at hM
 simp[go_sem,ad,hp,af]
 try (refine zI om ?_;simp[go_sem])
 refine pC (zw1 c0) ?_
 simp[go_sem]
 refine zR (fun hd=> ?_) (fun hd=> ?_)
 .simp[go_sem]
  exact ret _ _ (by rw[<-hM,hd];rfl)
 rw[hd,Bool.not_false,B5]at hM
 simp[go_sem]
 refine zH (S:=Nat) [0,3] (fun i=> [.str s,.int .i64 i]) (fun _=> []) (fun i=>s.length - i) (fun i=>i<=s.length/\(s.drop i).all okC=s.all okC) hc hb 0 ⟨A4 _,rfl⟩ ?_ ?_
 .exact aO
 rintro i ⟨hi,hinv⟩
 refine zA ?_
 simp[go_sem]
 refine zR (fun q=> ?_) (fun q=> ?_)
 .have q:i<s.length:=by simpa using q
  have ei:=zQ q om
  obtain⟨c1,aa⟩: ∃c,s[i]=c:=⟨_,rfl⟩
  rw[A8 q,Ar,aa]at hinv
  have hok:okC c1=((za3 c1||wJ c1)&&(yL c1==c1)):=rfl
  have g1:=zy6 c1
  have g2:=zw1 c1
  have g3:=yA4 c1
  have ab:(((yL c1).toNat:Int) !=(c1.toNat:Int))= !(yL c1==c1):=by
   by_cases h:yL c1=c1
   .rw[h];simp
   .have: ¬(yL c1).toNat=c1.toNat:=fun w=>h (Ev.1 w)
    rw[beq_eq_false_iff_ne.2 h]
    simp
    omega
  revert hok g1 g2 g3 ab
  generalize za3 c1=bl
  generalize wJ c1=bd
  generalize ai:(yL c1==c1)=bg
  generalize yL c1=cg
  intro hok g1 g2 g3 ab
  have bad: ∀(b:Bool) (σ:St),okC c1=false->wret (some (.bool false)) 0 (fun r s=>r= .bool M/\s= []) σ:=fun b σ h=>ret _ _ (by rw[<-hM,<-hinv,h];rfl)
  have good:okC c1=true->(s.drop (i+1)).all okC=s.all okC:=fun h=>by rw[<-hinv,h,B5]
  simp[go_sem]
  refine yS [(3,0),(9,0),(16,0)] 0 rfl kR kR ?_
  simp[go_sem,q,aa]
  refine pD g1 ?_
  simp[go_sem]
  refine(A9 bl).elim (fun w=> ?_) (fun w=> ?_)
  .simp[go_sem,w,q,aa]
   refine pD g3 ?_
   simp[go_sem,q,aa]
   refine zR (fun w3=> ?_) (fun w3=> ?_)
   .simp[go_sem]
    exact bad true _ (by rw[hok,w];rw[ab]at w3;simpa using w3)
   .simp[go_sem,ei]
    exact zG (i+1) ⟨om,⟨q,good (by rw[hok,w];rw[ab]at w3;simpa using w3)⟩,aO⟩
  .simp[go_sem,w,q,aa]
   refine pD g2 ?_
   simp[go_sem]
   refine(A9 bd).elim (fun w2=> ?_) (fun w2=> ?_)
   .simp[go_sem,w2,q,aa]
    refine pD g3 ?_
    simp[go_sem,q,aa]
    refine zR (fun w3=> ?_) (fun w3=> ?_)
    .simp[go_sem]
     exact bad true _ (by rw[hok,w,w2];rw[ab]at w3;simpa using w3)
    .simp[go_sem,ei]
     exact zG (i+1) ⟨om,⟨q,good (by rw[hok,w,w2];rw[ab]at w3;simpa using w3)⟩,aO⟩
   .simp[go_sem,w2]
    exact bad true _ (by rw[hok,w,w2];rfl)
 .have q:i=s.length:=by
   have: ¬i<s.length:=by simpa using q
   omega
  subst q
  rw[D6,Ch]at hinv
  rw[<-hinv,B5]at hM
  simp[go_sem]
  refine pC yT1 ?_
  simp[go_sem]
  refine zH (S:=Nat) [0,4,5] (fun i=> [.str s,.sl .ro (resv.map fun s=> [.str s]),.int .i64 i]) (fun _=> []) (fun i=>32 - i) (fun i=>i<=32/\(resv.drop i).contains s=resv.contains s) hc hb 0 ⟨A4 _,rfl⟩ ?_ ?_
  .exact aO
  rintro i ⟨hi,hinv⟩
  refine zA ?_
  simp[go_sem,zS3]
  refine zR (fun q=> ?_) (fun q=> ?_)
  .have q:i<32:=by simp at q;omega
   have q2:i<resv.length:=by rw[zS3];exact q
   have ei:=zQ q om
   obtain⟨x,hx⟩:=eX (resv[i])
   rw[A8 q2,E2,hx]at hinv
   simp[go_sem,zS3,q,hx]
   try (refine zI om ?_;simp[go_sem])
   refine zR (fun w=> ?_) (fun w=> ?_)
   .have w:x=s:=by simpa using w
    simp[go_sem]
    exact ret _ _ (by rw[<-hM,<-hinv,w];simp)
   .have w: ¬x=s:=by simpa using w
    have w2:(s==x)=false:=beq_eq_false_iff_ne.2 fun h=>w h.symm
    rw[w2,Cb]at hinv
    simp[go_sem,ei]
    exact zG (i+1) ⟨om,⟨q,hinv⟩,aO⟩
  .have q:i=32:=by simp at q;omega
   subst q
   rw[Bq (by rw[zS3];exact A5 _)]at hinv
   simp[go_sem]
   exact ret _ _ (by rw[<-hM,<-hinv];rfl)
structure GToken where
 kind:Int
 place:Int
 s:List UInt8
 n:Int
 deriving DecidableEq
@[go_sem] def GToken.row (x:GToken):List V:= [.int .i64 x.kind,.int .i64 x.place,.str x.s,.int .i64 x.n]
structure RS where
 at_:Nat
 opn:Int
 err:Int
 place:Int
 deriving DecidableEq
def rB (L:List GToken) (s:RS):Ob:= .box [.sl .ro (L.map GToken.row),.int .i64 (s.at_:Int),.int .i64 s.opn,.int .i64 s.err,.int .i64 s.place]
theorem zN7 (L:List GToken) (s:RS) (n:Nat):ltOb n (rB L s)=true:=by simp[rB,ltOb,ltC,ltK]
def zm6:GToken:=⟨0,0,[],0⟩
def tokF (L:List GToken) (s:RS):GToken:=L.getD s.at_ zm6
def za1 (e place:Int) (s:RS):RS:=if s.err=0 then{s with err:=e,place:=place}else s
def zM (s:RS):RS:={s with at_:=s.at_+1}
def outF (s:RS):RS:={s with opn:=s.opn - 1}
def isT (L:List GToken) (w:List UInt8) (s:RS):Bool:=s.err==0&&(((tokF L s).kind==1||(tokF L s).kind==4)&&(tokF L s).s==w)
def eatF (L:List GToken) (w:List UInt8) (s:RS):RS:=if isT L w s=true then zM s else s
def yB (L:List GToken) (w:List UInt8) (s:RS):RS:=if isT L w s=true then zM s else za1 13 (tokF L s).place s
def yt7 (L:List GToken) (s:RS):Bool:=s.err==0&&((tokF L s).kind==1&&zl0 (tokF L s).s)
def yY (L:List GToken) (s:RS):List UInt8×RS:=if yt7 L s=true then((tokF L s).s,zM s)else([],za1 13 (tokF L s).place s)
def numB (L:List GToken) (s:RS):Bool:=s.err==0&&(tokF L s).kind==2
def numF (L:List GToken) (s:RS):Int×RS:=if numB L s=true then((tokF L s).n,zM s)else(0,za1 13 (tokF L s).place s)
def anyF (L:List GToken) (s:RS):List (List UInt8)->List UInt8
 | []=> []
 |w::ws=>if isT L w s=true then w else anyF L s ws
def yR (L:List GToken) (s:RS):RS:=if s.err=0/\s.opn+1>200 then{s with opn:=s.opn+1,err:=3,place:=(tokF L s).place}else{s with opn:=s.opn+1}
structure RIn (L:List GToken) (s:RS):Prop where
 at_:s.at_<L.length
 opn:0<=s.opn/\s.opn<=100000
structure LIn (L:List GToken):Prop where
 len:L.length<=1000000
 last: ∀i,L.length=i+1->(L.getD i zm6).kind=0
 txt: ∀t∈L,t.s.length<=maxLen
theorem LIn.next {L:List GToken} (h:LIn L) {s:RS} (hs:RIn L s) (hk:(tokF L s).kind≠0):RIn L (zM s):=by
 refine⟨?_,hs.opn⟩
 have h1:=hs.at_
 rcases Cf (s.at_+1) L.length with h2|h2
 .exact h2
 .exact absurd (h.last s.at_ om) hk
theorem xA7 {L:List GToken} {w:List UInt8} {s:RS} (h:isT L w s=true):(tokF L s).kind≠0/\s.err=0:=by
 unfold isT at h
 simp only[A6,Bv,beq_iff_eq]at h
 exact⟨om,h.1⟩
theorem zr6 (L:List GToken) (hL:LIn L) (s:RS) (hs:RIn L s):VCalls prog 76 [.ptr 0 0] [rB L s] (fun r σ=>r= .agg (tokF L s).row/\σ= [rB L s]):=by
 have h1:=hs.at_
 have hl:=hL.len
 obtain⟨t,ht⟩:=eX (L[s.at_])
 have aa:tokF L s=t:=by unfold tokF;rw[A7,A0 h1,ht];rfl
 rw[aa]
 refine iW 1 func76 ntmps76 results76 fun c hc hb=>zL ?_
 simp[go_sem,rB]
 refine wQ [(10,4)] 2 sm kR kR ?_
 simp[go_sem,h1,ht]
 exact xA 1 rfl rfl rfl (A5 _) (zC rfl) ⟨rfl,rfl⟩
theorem yl2 {args:List V} {L:List GToken} {s s':RS} {v:V} (hc:VCalls P f args' [rB L s] (fun r σ=>r=v/\σ= [rB L s'])) (hb:wB P f=true)
  (aa:All2 (argS (ren [0] (τ.length+1))) args' (args++caps)) (hn:noS v=true) (hk:KV v (rB L s'::τ)):wVC P c (.fn f caps) args (rB L s::τ) KV fx:=by
 refine zl9 0 hc hb rfl (zN7 _ _ _) aa (fun r σ h=>⟨_,h.2,zN7 _ _ _⟩) ?_
 rintro r o2 ⟨rfl,h2⟩
 obtain rfl:o2=rB L s':=by simpa using h2
 rw[zy9 hn]
 exact hk
theorem zw6 {n:Nat} {args:List V} {L:List GToken} {s s':RS} {v:V} (hc:VCalls P f args' [rB L s] (fun r σ=>r=v/\σ= [rB L s'])) (hb:wB P f=true)
  (aa:All2 (argS (ren [0] (τ.length+1))) args' (args++caps)) (hn:noS v=true) (hk:KV v (rB L s'::τ)):wVD P c ⟨1,n,[],none⟩ 3 (.fn f caps) args (rB L s::τ) KV fx:=
 xU8 hc hb rfl (zN7 _ _ _) (zN7 _ _ _) aa hn hk
theorem wA {N:Nat} {l l':List V} (h:All2 (argS (ren [0] N)) l l'):All2 (argS (ren [0] N)) (.ptr 0 0::l) (.ptr 0 0::l'):=⟨.inl rfl,h⟩
theorem rd_1 {N:Nat}:All2 (argS (ren [0] N)) [.ptr 0 0] [.ptr 0 0]:=wA trivial
theorem pR {args:List V} {L:List GToken} {s s':RS} {v:V} (hc:VCalls P f args' [rB L s] (fun r σ=>r=v/\σ= [rB L s'])) (hk:KV v (rB L s'::τ))
  (aa:All2 (argS (ren [0] (τ.length+1))) args' (args++caps):=by first|exact rd_1|exact wA (yC rfl)|exact wA ⟨zK,yC rfl⟩|exact wA ⟨zC rfl,zK,yC rfl⟩|exact wA ⟨zK,zK,yC rfl⟩)
  (hb:wB P f=true:=by kernel_rfl) (hn:noS v=true:=by rfl):wVC P c (.fn f caps) args (rB L s::τ) KV fx:=yl2 hc hb aa hn hk
theorem xH {R:V->St->Prop} {L:List GToken} {s:RS} {v r:V} (hr:argS (ren (List.range 1) (rB L s::τ).length) r v) (hR:R r [rB L s]):wret (some v) 1 R (rB L s::τ):=
 xA 1 rfl rfl (by simp[zN7]) (A5 _) hr hR
theorem is_w (L:List GToken) (hL:LIn L) (s:RS) (hs:RIn L s) (w:List UInt8):VCalls prog 75 [.ptr 0 0,.str w] [rB L s] (fun r σ=>r= .bool (isT L w s)/\σ= [rB L s]):=by
 have ht:=zr6 L hL s hs
 have aa:(tokF L s).s.length<=maxLen:=by
  unfold tokF
  rw[A7,A0 hs.at_]
  exact hL.txt _ (Aa _)
 generalize hM:isT L w s=M
 unfold isT at hM
 obtain⟨t,ab⟩:=eX (tokF L s)
 rw[ab]at hM ht aa
 have ret: ∀(r:Bool) (τ:St),r=M->wret (some (.bool r)) 1 (fun r σ=>r= .bool M/\σ= [rB L s]) (rB L s::τ):=fun r τ h=>by subst h;exact xH (zC rfl) ⟨rfl,rfl⟩
 refine iW 1 func75 ntmps75 results75 fun c hc hb=>zL ?_
 simp[go_sem]
 refine pR ht ?_
 simp[go_sem,rB]
 repeat' (first|(refine xE (fun q=> ?_) (fun q=> ?_)<;>simp[go_sem,q])|(refine zR (fun q=> ?_) (fun q=> ?_)<;>simp[go_sem,q]))
 all_goals exact ret _ _ (by rw[<-hM];simp_all)
theorem ye8 (L:List GToken) (hL:LIn L) (s:RS) (hs:RIn L s) (w:List UInt8):VCalls prog 74 [.ptr 0 0,.str w] [rB L s] (fun r σ=>r= .bool (isT L w s)/\σ= [rB L (eatF L w s)]):=by
 have hi:=is_w L hL s hs w
 have h1:=hs.at_
 have hl:=hL.len
 have ei:IntKind.i64.wrap ((s.at_:Int)+1)=((s.at_+1:Nat):Int):=by rw[i64_id om om];omega
 unfold eatF
 generalize isT L w s=b at hi
 refine iW 1 func74 ntmps74 results74 fun c hc hb=>zL ?_
 simp[go_sem]
 refine pR hi ?_
 simp[go_sem,rB]
 refine(A9 b).elim (fun q=> ?_) (fun q=> ?_)
 all_goals subst q
 all_goals simp[go_sem,ei]
 .exact xH (s:=zM s) (zC rfl) ⟨rfl,rfl⟩
 .exact xH (s:=s) (zC rfl) ⟨rfl,rfl⟩
theorem zH6 (L:List GToken) (s:RS) (e p:Int):VCalls prog 79 [.ptr 0 0,.int .i64 e,.int .i64 p] [rB L s] (fun r σ=>r= .tup []/\σ= [rB L (za1 e p s)]):=by
 unfold za1
 refine iW 1 func79 ntmps79 results79 fun c hc hb=>zL ?_
 simp[go_sem,rB]
 refine zR (fun q=> ?_) (fun q=> ?_)
 .have q:s.err=0:=by simpa using q
  simp[go_sem,q]
  exact xH (s:={s with err:=e,place:=p}) (zC rfl) ⟨rfl,rfl⟩
 .have q: ¬s.err=0:=by simpa using q
  simp[go_sem,q]
  exact xH (s:=s) (zC rfl) ⟨rfl,rfl⟩
theorem zd6 (L:List GToken) (hL:LIn L) (s:RS) (hs:RIn L s) (w:List UInt8):VCalls prog 77 [.ptr 0 0,.str w] [rB L s] (fun r σ=>r= .tup []/\σ= [rB L (yB L w s)]):=by
 have he:=ye8 L hL s hs w
 have ht:=zr6 L hL s hs
 have hf:=zH6 L s 13 (tokF L s).place
 unfold eatF at he
 unfold yB
 generalize isT L w s=b at he
 refine iW 1 func77 ntmps77 results77 fun c hc hb=>zL ?_
 simp[go_sem]
 refine pR he ?_
 simp[go_sem]
 refine(A9 b).elim (fun q=> ?_) (fun q=> ?_)
 all_goals subst q
 all_goals simp[go_sem]
 .exact xH (zC rfl) ⟨rfl,rfl⟩
 .refine pR ht ?_
  simp[go_sem]
  refine pR hf ?_
  simp[go_sem]
  exact xH (zC rfl) ⟨rfl,rfl⟩
theorem zO8 (L:List GToken) (hL:LIn L) (s:RS) (hs:RIn L s):VCalls prog 138 [.ptr 0 0] [rB L s] (fun r σ=>r= .str (yY L s).1/\σ= [rB L (yY L s).2]):=by
 have ht:=zr6 L hL s hs
 have hf:=zH6 L s 13 (tokF L s).place
 have ad:(tokF L s).s.length<=maxLen:=by
  unfold tokF
  rw[A7,A0 hs.at_]
  exact hL.txt _ (Aa _)
 have hw:=zW8 (tokF L s).s ad
 have h1:=hs.at_
 have hl:=hL.len
 have ei:IntKind.i64.wrap ((s.at_:Int)+1)=((s.at_+1:Nat):Int):=by rw[i64_id om om];omega
 have ab:yt7 L s=false->yY L s=([],za1 13 (tokF L s).place s):=fun h=>by unfold yY;rw[h];rfl
 have aa:yt7 L s=true->yY L s=((tokF L s).s,zM s):=fun h=>by unfold yY;rw[h];rfl
 generalize yY L s=M at ab aa⊢
 unfold yt7 at ab aa
 obtain⟨t,ae⟩:=eX (tokF L s)
 rw[ae]at ht hf hw ab aa
 obtain⟨b,af⟩:=eX (zl0 t.s)
 rw[af]at hw ab aa
 have key:((s.err==0&&(t.kind==1&&b))=false/\(s.err !=0)=true)∨((s.err==0&&(t.kind==1&&b))=false/\(s.err !=0)=false/\(t.kind !=1)=true)∨((s.err==0&&(t.kind==1&&b))=b/\(s.err !=0)=false/\(t.kind !=1)=false):=by
  simp only[bne,D8,Bool.not_eq_false']
  cases s.err==0<;>cases t.kind==1<;>simp
 have no: ∀τ:St,M=([],za1 13 t.place s)->wret (some (.str [])) 1 (fun r σ=>r= .str M.1/\σ= [rB L M.2]) (rB L (za1 13 t.place s)::τ):=fun τ h=>by subst h;exact xH (zC rfl) ⟨rfl,rfl⟩
 refine iW 1 func138 ntmps138 results138 fun c hc hb=>zL ?_
 simp[go_sem]
 refine pR ht ?_
 simp[go_sem,rB]
 refine key.elim (fun⟨q1,q2⟩=> ?_) fun key=>key.elim (fun⟨q1,q2,q3⟩=> ?_) fun⟨q1,q2,q3⟩=> ?_
 .simp[go_sem,q2]
  refine pR hf ?_
  simp[go_sem]
  exact no _ (ab q1)
 .simp[go_sem,q2,q3]
  refine pR hf ?_
  simp[go_sem]
  exact no _ (ab q1)
 .simp[go_sem,q2,q3]
  refine pC hw ?_
  refine(A9 b).elim (fun q=> ?_) (fun q=> ?_)
  .have hM:=aa (q1.trans q)
   subst q
   subst hM
   simp[go_sem,ei]
   exact xH (s:=zM s) (zC rfl) ⟨rfl,rfl⟩
  .have hM:=ab (q1.trans q)
   subst q
   simp[go_sem]
   refine pR hf ?_
   simp[go_sem]
   exact no _ hM
theorem yu0 (L:List GToken) (hL:LIn L) (s:RS) (hs:RIn L s):VCalls prog 78 [.ptr 0 0] [rB L s] (fun r σ=>r= .int .i64 (numF L s).1/\σ= [rB L (numF L s).2]):=by
 have ht:=zr6 L hL s hs
 have hf:=zH6 L s 13 (tokF L s).place
 have h1:=hs.at_
 have hl:=hL.len
 have ei:IntKind.i64.wrap ((s.at_:Int)+1)=((s.at_+1:Nat):Int):=by rw[i64_id om om];omega
 have ab:numB L s=false->numF L s=(0,za1 13 (tokF L s).place s):=fun h=>by unfold numF;rw[h];rfl
 have aa:numB L s=true->numF L s=((tokF L s).n,zM s):=fun h=>by unfold numF;rw[h];rfl
 generalize numF L s=M at ab aa⊢
 unfold numB at ab aa
 obtain⟨t,ad⟩:=eX (tokF L s)
 rw[ad]at ht hf ab aa
 have key:((s.err==0&&t.kind==2)=false/\(s.err !=0)=true)∨((s.err==0&&t.kind==2)=false/\(s.err !=0)=false/\(t.kind !=2)=true)∨((s.err==0&&t.kind==2)=true/\(s.err !=0)=false/\(t.kind !=2)=false):=by
  simp only[bne,D8,Bool.not_eq_false']
  cases s.err==0<;>cases t.kind==2<;>simp
 have no: ∀τ:St,M=(0,za1 13 t.place s)->wret (some (.int .i64 0)) 1 (fun r σ=>r= .int .i64 M.1/\σ= [rB L M.2]) (rB L (za1 13 t.place s)::τ):=fun τ h=>by subst h;exact xH (zC rfl) ⟨rfl,rfl⟩
 refine iW 1 func78 ntmps78 results78 fun c hc hb=>zL ?_
 simp[go_sem]
 refine pR ht ?_
 simp[go_sem,rB]
 refine key.elim (fun⟨q1,q2⟩=> ?_) fun key=>key.elim (fun⟨q1,q2,q3⟩=> ?_) fun⟨q1,q2,q3⟩=> ?_
 .simp[go_sem,q2]
  refine pR hf ?_
  simp[go_sem]
  exact no _ (ab q1)
 .simp[go_sem,q2,q3]
  refine pR hf ?_
  simp[go_sem]
  exact no _ (ab q1)
 .have hM:=aa q1
  subst hM
  simp[go_sem,q2,q3,ei]
  exact xH (s:=zM s) (zC rfl) ⟨rfl,rfl⟩
theorem zY1 (L:List GToken) (hL:LIn L) (s:RS) (hs:RIn L s) (ws:List (List UInt8)) (hw:ws.length<=1000):VCalls prog 71 [.ptr 0 0,.sl .ro (ws.map fun w=> [V.str w])] [rB L s] (fun r σ=>r= .str (anyF L s ws)/\σ= [rB L s]):=by
 generalize hM:anyF L s ws=M
 have ret: ∀(r:List UInt8) (τ:St),r=M->wret (some (.str r)) 1 (fun r σ=>r= .str M/\σ= [rB L s]) (rB L s::τ):=fun r τ h=>by subst h;exact xH (zC rfl) ⟨rfl,rfl⟩
 refine iV 1 func71 ntmps71 results71 fun c hc hb=> ?_
 refine zA ?_
 simp[go_sem]
 refine zH (S:=Nat) [0,1,5] (fun i=> [.ptr 0 0,.sl .ro (ws.map fun w=> [V.str w]),.int .i64 i]) (fun _=> [rB L s]) (fun i=>ws.length - i) (fun i=>i<=ws.length/\anyF L s (ws.drop i)=M) hc hb 0 ⟨A4 _,hM⟩ ?_ ?_
 .exact at_n 1 (by simp[go_sem,rB]) rfl (by simp[zN7]) (A5 _) (zF sg rfl)
 rintro i ⟨hi,hinv⟩
 by_cases q:i<ws.length
 rotate_left
 .rw[Ab om]at hinv
  refine zA ?_
  simp[go_sem,q]
  exact ret _ _ hinv
 have ei:=zQ q om
 obtain⟨w,hx⟩:=eX (ws[i])
 rw[A8 q,hx,anyF]at hinv
 have aa:=is_w L hL s hs w
 obtain⟨b,ab⟩:=eX (isT L w s)
 rw[ab]at aa hinv
 refine zA ?_
 simp[go_sem,q,hx]
 refine pR aa ?_
 simp[go_sem]
 refine zR (fun w1=> ?_) (fun w1=> ?_)
 .rw[if_pos w1]at hinv
  simp[go_sem,q,hx]
  exact ret _ _ hinv
 .rw[if_neg (by rw[w1];decide)]at hinv
  simp[go_sem,ei]
  exact zG (i+1) ⟨om,⟨q,hinv⟩,at_n 1 rfl rfl (by simp[zN7]) (A5 _) (zF sg rfl)⟩
theorem zP5 (L:List GToken) (hL:LIn L) (s:RS) (hs:RIn L s) (ad:s.opn<=1000):VCalls prog 334 [.ptr 0 0] [rB L s] (fun r σ=>r= .bool ((yR L s).err==0)/\σ= [rB L (yR L s)]):=by
 have ho:=hs.opn
 have ht:=zr6 L hL {s with opn:=s.opn+1} ⟨hs.at_,by simp only;omega⟩
 have e0:tokF L {s with opn:=s.opn+1}=tokF L s:=rfl
 rw[e0]at ht
 have hf:=zH6 L {s with opn:=s.opn+1} 3 (tokF L s).place
 have ei:IntKind.i64.wrap (s.opn+1)=s.opn+1:=by rw[i64_id om om]
 refine iW 1 func334 ntmps334 results334 fun c hc hb=>zL ?_
 simp[go_sem,rB,ei]
 by_cases q1:s.err=0
 .have aa:(s.err==0)=true:=by simpa using q1
  by_cases q2:s.opn+1>200
  .have ab:decide (200<s.opn+1)=true:=decide_eq_true om
   have hS:yR L s=za1 3 (tokF L s).place {s with opn:=s.opn+1}:=by unfold yR za1;rw[if_pos ⟨q1,q2⟩,if_pos q1]
   rw[hS]
   simp[go_sem,aa,ab]
   refine pR ht ?_
   simp[go_sem]
   refine pR hf ?_
   unfold za1
   rw[if_pos q1]
   simp[go_sem,rB]
   exact xH (L:=L) (s:={s with opn:=s.opn+1,err:=3,place:=(tokF L s).place}) (zC rfl) ⟨rfl,rfl⟩
  .have ab:decide (200<s.opn+1)=false:=decide_eq_false om
   have hS:yR L s={s with opn:=s.opn+1}:=by unfold yR;rw[if_neg (fun h=>q2 h.2)]
   rw[hS]
   simp[go_sem,aa,ab]
   exact xH (L:=L) (s:={s with opn:=s.opn+1}) (zC rfl) ⟨rfl,rfl⟩
 .have aa:(s.err==0)=false:=by simpa using q1
  have hS:yR L s={s with opn:=s.opn+1}:=by unfold yR;rw[if_neg (fun h=>q1 h.1)]
  rw[hS]
  simp[go_sem,aa]
  exact xH (L:=L) (s:={s with opn:=s.opn+1}) (zC rfl) ⟨rfl,rfl⟩
theorem yL4:Pure prog 336 [] (.sl .ro [[.sl .ro [[.str [79,82]]]],[.sl .ro [[.str [65,78,68]]]]]):=by
 refine iW 0 func336 ntmps336 results336 fun c hc hb=>zL ?_
 simp[go_sem]
 exact wG zK ⟨rfl,rfl⟩
mutual
def wE:GExpr->Nat
 | .mk _ _ _ args=>xZ args+1
def xZ:List GExpr->Nat
 | []=>0
 |e::l=>max (wE e) (xZ l)
end
variable {e:GExpr}{w:List UInt8}{o:Int}{τ:St}{a:List GExpr}
theorem zj5 (e:GExpr):wE e=xZ e.args+1:=by cases e;rw[wE];rfl
theorem zl5: ∀(l:List GExpr) (e:GExpr),e∈l->wE e<=xZ l
 | [],_,h=>by simp at h
 |x::l,e,h=>by
  rw[xZ]
  rcases Ae.1 h with rfl|h
  .omega
  .have:=zl5 l e h;omega
inductive Wide:GExpr->Prop
 |mk (e:GExpr) (h:e.args.length<=1000000) (ha: ∀x∈e.args,Wide x):Wide e
theorem Wide.len (h:Wide e):e.args.length<=1000000:=by cases h;assumption
theorem Wide.sub (h:Wide e): ∀x∈e.args,Wide x:=by cases h;assumption
def maxD (l:List GExpr) (d:Nat):Nat:=l.foldl (fun d e=>max d (wE e)) d
theorem xf8: ∀(l:List GExpr) (d:Nat),maxD l d=max d (xZ l)
 | [],d=>by simp[maxD,xZ]
 |e::l,d=>by
  have:=xf8 l (max d (wE e))
  unfold maxD at this⊢
  rw[Bb,this,xZ]
  omega
theorem xt1: ∀(n:Nat) (e:GExpr),wE e<=n->n<=1000000->Wide e->Pure prog 356 [.agg e.row] (.int .i64 (wE e:Int))
 |0,e,h,_,_=>by rw[zj5]at h;omega
 |n+1,e,h,hn,hw=>by
  have ih:=xt1 n
  have ae:=zj5 e
  obtain⟨args,aa⟩:=eX e.args
  have hlen:=hw.len
  have ad:=hw.sub
  rw[aa]at ae hlen ad
  obtain⟨D,hD⟩:=eX (wE e)
  rw[hD]at ae h⊢
  refine iV 0 func356 ntmps356 results356 fun c hc hb=> ?_
  refine zA ?_
  simp[go_sem]
  refine zH (S:=Nat×Nat) [1,3,4] (fun u=> [.ptr 0 0,.int .i64 (u.2:Int),.int .i64 (u.1:Int)]) (fun _=> [.box e.row]) (fun u=>args.length - u.1) (fun u=>u.1<=args.length/\maxD (args.drop u.1) u.2=xZ args/\u.2<=n) hc hb (0,0) ⟨A4 _,by simp[xf8],A4 _⟩ ?_ ?_
  .exact aN 1 (by simp[ltOb,ltC,ltK,GExpr.row_eq])
  rintro⟨i,d⟩ ⟨hi,hinv,ai⟩
  simp only at hi hinv ai
  by_cases q:i<args.length
  rotate_left
  .rw[Ab om]at hinv
   have ak:d=xZ args:=hinv
   have ei:IntKind.i64.wrap ((d:Int)+1)=(D:Int):=by rw[i64_id om om];omega
   refine zA ?_
   simp[go_sem,q,aa,ei]
   exact wR
  have ei:=zQ q om
  obtain⟨x,hx⟩:=eX (args[i])
  have af:x∈args:=hx▸Aa q
  have aj:=zl5 args x af
  rw[A8 q,hx]at hinv
  have ag:=ih x om om (ad x af)
  have ab:maxD (args.drop (i+1)) (max d (wE x))=xZ args:=hinv
  obtain⟨dx,ah⟩:=eX (wE x)
  rw[ah]at ag ab aj
  refine zA ?_
  simp[go_sem,q,aa,hx]
  refine zJ ag cB (zN sg (by rw[GExpr.row_eq];rfl)) rfl ?_
  simp[go_sem,ei]
  refine zG (i+1,max d dx) ⟨by simp only;omega,⟨by simp only;omega,ab,by simp only;omega⟩, ?_⟩
  refine at_n 1 (by simp[go_sem,aa]) rfl (by simp[ltOb,ltC,ltK,GExpr.row_eq]) (A4 _) (zF ?_ rfl)
  simp[go_sem]
  split<;>omega
abbrev PR:=GExpr×RS
def zeroE:GExpr:= .mk 0 [] ⟨0,0,[]⟩ []
def opE (w:List UInt8) (args:List GExpr):GExpr:= .mk 3 w ⟨0,0,[]⟩ args
def valE (v:GValue):GExpr:= .mk 1 [] v []
def namE (w:List UInt8):GExpr:= .mk 2 w ⟨0,0,[]⟩ []
def opS (place:Int) (w:List UInt8) (args:List GExpr) (s:RS):RS:=if s.err=0/\16<wE (opE w args)then za1 3 place s else s
def opF (place:Int) (w:List UInt8) (args:List GExpr) (s:RS):PR:=(opE w args,opS place w args s)
def ze5 (L:List GToken) (k:RS->PR) (s:RS):PR:=if(yR L s).err=0 then((k (yR L s)).1,outF (k (yR L s)).2)else(zeroE,outF (yR L s))
def opsF (L:List GToken) (ws:List (List UInt8)) (sub:RS->PR):Nat->PR->PR
 |0,x=>x
 |n+1,x=>if anyF L x.2 ws= []then x else opsF L ws sub n (opF (tokF L x.2).place (anyF L x.2 ws) [x.1,(sub (zM x.2)).1] (sub (zM x.2)).2)
def wOR:List UInt8:= [79,82]
def wAND:List UInt8:= [65,78,68]
def wNOT:List UInt8:= [78,79,84]
def wIS:List UInt8:= [73,83]
def zr8:List UInt8:= [78,85,76,76]
def yd6:List UInt8:= [73,83,78,85,76,76]
def zT9:List UInt8:= [78,79,84,78,85,76,76]
def signsC:List (List UInt8):= [[61],[60,62],[60],[60,61],[62],[62,61]]
def zl8:List (List UInt8):= [[43],[45]]
def zl7:List (List UInt8):= [[42],[47],[37]]
def notK (L:List GToken) (rn rc:RS->PR) (s:RS):PR:=if isT L wNOT s=true then opF (tokF L s).place wNOT [(rn (zM s)).1] (rn (zM s)).2 else rc s
def cmpJ (L:List GToken) (sub:RS->PR) (x:PR):PR:=
 if isT L wIS x.2=true then
  if isT L wNOT (zM x.2)=true then opF (tokF L x.2).place zT9 [x.1] (yB L zr8 (zM (zM x.2)))else opF (tokF L x.2).place yd6 [x.1] (yB L zr8 (zM x.2))
 else if anyF L x.2 signsC= []then x else opF (tokF L x.2).place (anyF L x.2 signsC) [x.1,(sub (zM x.2)).1] (sub (zM x.2)).2
def zG9 (L:List GToken) (un ex:RS->PR) (s:RS):PR:=
 if isT L [45] s=true then opF (tokF L s).place [78,69,71] [(un (zM s)).1] (un (zM s)).2
 else if isT L [40] s=true then((ex (zM s)).1,yB L [41] (ex (zM s)).2)
 else if isT L [84,82,85,69] s=true then(valE ⟨1,1,[]⟩,zM s)
 else if isT L [70,65,76,83,69] s=true then(valE ⟨1,0,[]⟩,zM s)
 else if isT L zr8 s=true then(valE ⟨0,0,[]⟩,zM s)
 else if(tokF L s).kind=2 then(valE ⟨2,(tokF L s).n,[]⟩,zM s)
 else if(tokF L s).kind=3 then(valE ⟨3,0,(tokF L s).s⟩,zM s)
 else(namE (yY L s).1,(yY L s).2)
def zg3 (L:List GToken) (rec:Nat->RS->PR):Nat->RS->PR
 |0,s=>opsF L [wOR] (rec 1) L.length (rec 1 s)
 |1,s=>opsF L [wAND] (rec 2) L.length (rec 2 s)
 |2,s=>notK L (rec 2) (rec 3) s
 |3,s=>cmpJ L (rec 4) (rec 4 s)
 |4,s=>opsF L zl8 (rec 5) L.length (rec 5 s)
 |5,s=>opsF L zl7 (rec 6) L.length (rec 6 s)
 |_,s=>zG9 L (rec 6) (rec 0) s
def pF (L:List GToken):Nat->Nat->RS->PR
 |0,_,s=>(zeroE,s)
 |f+1,w,s=>ze5 L (zg3 L (pF L f) w) s
structure PI (L:List GToken) (s:RS) (x:PR):Prop where
 rin:RIn L x.2
 opn:x.2.opn=s.opn
 up:s.at_<=x.2.at_
 err:x.2.err=0->s.err=0/\wE x.1<=16
 wide:Wide x.1
theorem zm3 {e p:Int} {s:RS} (he:e≠0):(za1 e p s).err≠0:=by unfold za1;split<;>simp_all
theorem zH5 (e p:Int) (s:RS):(za1 e p s).at_=s.at_:=by unfold za1;split<;>rfl
theorem zA7 (e p:Int) (s:RS):(za1 e p s).opn=s.opn:=by unfold za1;split<;>rfl
theorem yf6 {L:List GToken} {s:RS} (h:RIn L s) (e p:Int):RIn L (za1 e p s):=⟨by rw[zH5];exact h.at_,by rw[zA7];exact h.opn⟩
theorem zO9 (p:Int) (w:List UInt8) (a:List GExpr) (s:RS):(opS p w a s).at_=s.at_:=by unfold opS;split;exact zH5 _ _ _;rfl
theorem yc4 (p:Int) (w:List UInt8) (a:List GExpr) (s:RS):(opS p w a s).opn=s.opn:=by unfold opS;split;exact zA7 _ _ _;rfl
theorem yC5 {p:Int} {s:RS} (h:(opS p w a s).err=0):s.err=0/\wE (opE w a)<=16:=by
 unfold opS at h
 split at h
 .exact absurd h (zm3 dC)
 .rename_i hc
  refine⟨h, ?_⟩
  by_cases q:16<wE (opE w a)
  .exact absurd ⟨h,q⟩ hc
  .omega
theorem wc5 {L:List GToken} {s:RS} (h:RIn L s) (p:Int) (w:List UInt8) (a:List GExpr):RIn L (opS p w a s):=⟨by rw[zO9];exact h.at_,by rw[yc4];exact h.opn⟩
theorem xh1 (p:Int) (w:List UInt8) (a:List GExpr) (s:RS):opS p w a (outF s)=outF (opS p w a s):=by
 unfold opS za1 outF
 by_cases q:s.err=0/\16<wE (opE w a)
 .rw[if_pos q,if_pos q,if_pos q.1,if_pos q.1]
 .rw[if_neg q,if_neg q]
theorem xv8 (w:List UInt8) (a:List GExpr):wE (opE w a)=xZ a+1:=zj5 _
theorem xk6 (h:a.length<=1000000) (ha: ∀x∈a,Wide x):Wide (opE w a):= .mk _ h ha
theorem xJ8 (h:e.args= []):Wide e:= .mk _ (by simp[h]) (by simp[h])
def RR (L:List GToken) (x:PR):V->St->Prop:=fun r σ=>r= .agg x.1.row/\σ= [rB L x.2]
theorem xY {L:List GToken} {s:RS} {x:PR} (h:x=(e,s)):wret (some (.agg [.int .i64 e.kind,.str e.s,.int .i64 e.v.kind,.int .i64 e.v.n,.str e.v.s,.sl .ro (e.args.map GExpr.row)])) 1 (RR L x) (rB L s::τ):=by
 subst h
 exact xH (zC rfl) ⟨by rw[GExpr.row_eq],rfl⟩
theorem xg5 (e:GExpr):noS (.agg e.row)=true:=by rw[GExpr.row_eq];rfl
theorem za0 {P:Program} {c:Ctx} {f:FuncId} {caps args args':List V} {L:List GToken} {s:RS} {x:PR} {KV:V->St->Prop} (hc:VCalls P f args' [rB L s] (RR L x)) (hb:wB P f=true)
  (aa:All2 (argS (ren [0] (τ.length+1))) args' (args++caps)) (hk:KV (.agg x.1.row) (rB L x.2::τ)):wVC P c (.fn f caps) args (rB L s::τ) KV fx:=
 yl2 hc hb aa (xg5 _) hk
theorem zs3 {P:Program} {c:Ctx} {n:Nat} {f:FuncId} {caps args args':List V} {L:List GToken} {s:RS} {x:PR} {KV:V->St->Prop} (hc:VCalls P f args' [rB L s] (RR L x)) (hb:wB P f=true)
  (aa:All2 (argS (ren [0] (τ.length+1))) args' (args++caps)) (hk:KV (.agg x.1.row) (rB L x.2::τ)):wVD P c ⟨1,n,[],none⟩ 3 (.fn f caps) args (rB L s::τ) KV fx:=
 zw6 hc hb aa (xg5 _) hk
theorem op_w (L:List GToken) (s:RS) (p:Int) (w:List UInt8) (a:List GExpr) (hl:a.length<=1000) (hw: ∀x∈a,Wide x) (hd:s.err=0->xZ a<=1000):
  VCalls prog 337 [.ptr 0 0,.int .i64 p,.str w,.sl .ro (a.map GExpr.row)] [rB L s] (RR L (opF p w a s)):=by
 obtain⟨D,hD⟩:=eX (wE (opE w a))
 have ad:=xv8 w a
 rw[hD]at ad
 have hf:=zH6 L s 3 p
 have hS:opF p w a s=(opE w a,if s.err=0/\16<D then za1 3 p s else s):=by unfold opF opS;rw[hD]
 generalize opF p w a s=M at hS⊢
 refine iW 1 func337 ntmps337 results337 fun c hc hb=>zL ?_
 by_cases q1:s.err=0
 .have aa:(s.err==0)=true:=by simpa using q1
  have ae:=xt1 1001 (opE w a) (by rw[hD,ad];have:=hd q1;omega) om (xk6 om hw)
  rw[hD]at ae
  simp[go_sem,rB,aa]
  refine zJ ae cB (zN (by rw[GExpr.row_eq];rfl) rfl) rfl ?_
  simp[go_sem]
  by_cases q2:16<D
  .have ab:decide ((16:Int)<(D:Int))=true:=decide_eq_true om
   rw[if_pos ⟨q1,q2⟩]at hS
   simp[go_sem,ab]
   refine pR hf ?_
   simp[go_sem]
   exact xY hS
  .have ab:decide ((16:Int)<(D:Int))=false:=decide_eq_false om
   rw[if_neg (fun h=>q2 h.2)]at hS
   simp[go_sem,ab]
   exact xY hS
 .have aa:(s.err==0)=false:=by simpa using q1
  rw[if_neg (fun h=>q1 h.1)]at hS
  simp[go_sem,rB,aa]
  exact xY hS
variable {L:List GToken}
theorem za8 (s:RS):(zM s).at_=s.at_+1:=rfl
theorem zC8 {s:RS}: ∀{ws:List (List UInt8)},anyF L s ws≠ []->isT L (anyF L s ws) s=true
 | [],h=>absurd rfl h
 |w::ws,h=>by
  unfold anyF at h⊢
  split
  .assumption
  .rename_i hn
   rw[if_neg hn]at h
   exact zC8 h
theorem RIn.next (hL:LIn L) {s:RS} (h:RIn L s) (hi:isT L w s=true):RIn L (zM s):=hL.next h (xA7 hi).1
theorem zk2 (hL:LIn L) {s:RS} (h:RIn L s):RIn L (yB L w s):=by
 unfold yB
 split
 .exact h.next hL ‹_›
 .exact yf6 h _ _
theorem zv6 (w:List UInt8) (s:RS):s.at_<=(yB L w s).at_:=by
 unfold yB
 split
 .simp[zM]
 .rw[zH5];exact A5 _
theorem zp1 (w:List UInt8) (s:RS):(yB L w s).opn=s.opn:=by
 unfold yB
 split
 .rfl
 .exact zA7 _ _ _
theorem zi3 {s:RS} (h:(yB L w s).err=0):s.err=0/\isT L w s=true:=by
 unfold yB at h
 split at h
 .exact⟨h,‹_›⟩
 .exact absurd h (zm3 dC)
theorem yN1 (hL:LIn L) {s:RS} (h:RIn L s):RIn L (yY L s).2:=by
 unfold yY
 split
 .rename_i hb
  unfold yt7 at hb
  simp only[A6,beq_iff_eq]at hb
  exact hL.next h (by rw[hb.2.1];decide)
 .exact yf6 h _ _
theorem yN2 (s:RS):s.at_<=(yY L s).2.at_:=by
 unfold yY
 split
 .simp[zM]
 .simp only[zH5];exact A5 _
theorem yt8 (s:RS):(yY L s).2.opn=s.opn:=by
 unfold yY
 split
 .rfl
 .exact zA7 _ _ _
theorem zW6 {s:RS} (h:(yY L s).2.err=0):s.err=0/\yt7 L s=true:=by
 unfold yY at h
 split at h
 .exact⟨h,‹_›⟩
 .exact absurd h (zm3 dC)
theorem xM6 (h:e.args= []):wE e=1:=by rw[zj5,h];rfl
theorem zM6 {s0 s:RS} (p:Int) (w:List UInt8) (h1:RIn L s) (h2:s.opn=s0.opn) (h3:s0.at_<=s.at_) (h4:s.err=0->s0.err=0) (h5:a.length<=1000000) (h6: ∀x∈a,Wide x):PI L s0 (opF p w a s):=
 ⟨wc5 h1 _ _ _,by show(opS p w a s).opn=_;rw[yc4,h2],by show _<=(opS p w a s).at_;rw[zO9];exact h3,fun h=>⟨h4 (yC5 h).1,(yC5 h).2⟩,xk6 h5 h6⟩
theorem zL9 (hL:LIn L) {o:Int} {sub:RS->PR} (aa: ∀s,RIn L s->s.opn=o->PI L s (sub s)) (ws:List (List UInt8)) {s0:RS}: ∀(n:Nat) (x:PR),PI L s0 x->s0.opn=o->PI L s0 (opsF L ws sub n x)
 |0,x,h,_=>h
 |n+1,x,h,ho=>by
  unfold opsF
  split
  .exact h
  rename_i ab
  have hi:=zC8 ab
  have hx:=h.opn
  have hy:=aa (zM x.2) (h.rin.next hL hi) (by show x.2.opn=o;rw[hx,ho])
  refine zL9 hL aa ws n _ (zM6 _ _ hy.rin ?_ ?_ (fun he=>(h.err ?_).1) sm ?_) ho
  .rw[hy.opn];exact hx
  .have h1:=hy.up;have h2:=h.up;rw[za8]at h1;omega
  .exact(hy.err he).1
  .intro e he
   simp only[Ae,Be,or_false]at he
   rcases he with rfl|rfl
   .exact h.wide
   .exact hy.wide
theorem xQ2 (hL:LIn L) {rn rc:RS->PR} (h1: ∀s,RIn L s->s.opn=o->PI L s (rn s)) (h2: ∀s,RIn L s->s.opn=o->PI L s (rc s)) (s:RS) (hs:RIn L s) (ho:s.opn=o):PI L s (notK L rn rc s):=by
 unfold notK
 split
 .rename_i hi
  have hy:=h1 (zM s) (hs.next hL hi) ho
  refine zM6 _ _ hy.rin hy.opn ?_ (fun he=>(hy.err he).1) sm (fun e he=> ?_)
  .have h1:=hy.up;rw[za8]at h1;omega
  .simp only[Ae,Be,or_false]at he;subst he;exact hy.wide
 .exact h2 s hs ho
theorem xM3 (hL:LIn L) {sub:RS->PR} (aa: ∀s,RIn L s->s.opn=o->PI L s (sub s)) (s:RS) (ho:s.opn=o) (x:PR) (h:PI L s x):PI L s (cmpJ L sub x):=by
 have hx:=h.opn
 have hu:=h.up
 have w1: ∀e∈ [x.1],Wide e:=fun e he=>by simp only[Ae,Be,or_false]at he;subst he;exact h.wide
 unfold cmpJ
 split
 .rename_i hi
  have hn:=h.rin.next hL hi
  split
  .rename_i ab
   have ad:=hn.next hL ab
   refine zM6 _ _ (zk2 hL ad) ?_ ?_ (fun he=>(h.err ?_).1) sm w1
   .rw[zp1];exact hx
   .have:=zv6 (L:=L) zr8 (zM (zM x.2));simp only[zM]at this⊢;omega
   .exact(zi3 he).1
  .refine zM6 _ _ (zk2 hL hn) ?_ ?_ (fun he=>(h.err ?_).1) sm w1
   .rw[zp1];exact hx
   .have:=zv6 (L:=L) zr8 (zM x.2);simp only[zM]at this⊢;omega
   .exact(zi3 he).1
 .split
  .exact h
  rename_i ae
  have hi:=zC8 ae
  have hy:=aa (zM x.2) (h.rin.next hL hi) (by show x.2.opn=o;rw[hx,ho])
  refine zM6 _ _ hy.rin ?_ ?_ (fun he=>(h.err ?_).1) sm ?_
  .rw[hy.opn];exact hx
  .have h1:=hy.up;rw[za8]at h1;omega
  .exact(hy.err he).1
  .intro e he
   simp only[Ae,Be,or_false]at he
   rcases he with rfl|rfl
   .exact h.wide
   .exact hy.wide
theorem zC7 {s:RS} (ha:e.args= []) {s2:RS} (h1:RIn L s2) (h2:s2.opn=s.opn) (h3:s.at_<=s2.at_) (h4:s2.err=0->s.err=0):PI L s (e,s2):=
 ⟨h1,h2,h3,fun h=>⟨h4 h,by simp only;rw[xM6 ha];decide⟩,xJ8 ha⟩
theorem yG7 (hL:LIn L) {un ex:RS->PR} (h1: ∀s,RIn L s->s.opn=o->PI L s (un s)) (h2: ∀s,RIn L s->s.opn=o->PI L s (ex s)) (s:RS) (hs:RIn L s) (ho:s.opn=o):PI L s (zG9 L un ex s):=by
 unfold zG9
 split
 .rename_i hi
  have hy:=h1 (zM s) (hs.next hL hi) ho
  refine zM6 _ _ hy.rin hy.opn ?_ (fun he=>(hy.err he).1) sm (fun e he=> ?_)
  .have h1:=hy.up;rw[za8]at h1;omega
  .simp only[Ae,Be,or_false]at he;subst he;exact hy.wide
 split
 .rename_i hi
  have hy:=h2 (zM s) (hs.next hL hi) ho
  refine⟨zk2 hL hy.rin, ?_, ?_,fun he=> ?_,hy.wide⟩
  .rw[zp1];exact hy.opn
  .have h1:=hy.up;have h2:=zv6 (L:=L) [41] (ex (zM s)).2;rw[za8]at h1;show _<=(yB L [41] (ex (zM s)).2).at_;omega
  .have:=hy.err (zi3 he).1;exact this
 split
 .exact zC7 rfl (hs.next hL ‹_›) rfl (by simp[zM]) id
 split
 .exact zC7 rfl (hs.next hL ‹_›) rfl (by simp[zM]) id
 split
 .exact zC7 rfl (hs.next hL ‹_›) rfl (by simp[zM]) id
 split
 .exact zC7 rfl (hL.next hs om) rfl (by simp[zM]) id
 split
 .exact zC7 rfl (hL.next hs om) rfl (by simp[zM]) id
 .exact zC7 rfl (yN1 hL hs) (yt8 s) (yN2 s) (fun h=>(zW6 h).1)
theorem xu7 (hL:LIn L) {rec:Nat->RS->PR} (h: ∀w s,RIn L s->s.opn=o->PI L s (rec w s)): ∀(w:Nat) (s:RS),RIn L s->s.opn=o->PI L s (zg3 L rec w s)
 |0,s,hs,ho=>zL9 hL (h 1) _ _ _ (h 1 s hs ho) ho
 |1,s,hs,ho=>zL9 hL (h 2) _ _ _ (h 2 s hs ho) ho
 |2,s,hs,ho=>xQ2 hL (h 2) (h 3) s hs ho
 |3,s,hs,ho=>xM3 hL (h 4) s ho _ (h 4 s hs ho)
 |4,s,hs,ho=>zL9 hL (h 5) _ _ _ (h 5 s hs ho) ho
 |5,s,hs,ho=>zL9 hL (h 6) _ _ _ (h 6 s hs ho) ho
 |_w+6,s,hs,ho=>yG7 hL (h 6) (h 0) s hs ho
theorem zS5 (s:RS):(yR L s).at_=s.at_:=by unfold yR;split<;>rfl
theorem zb3 (s:RS):(yR L s).opn=s.opn+1:=by unfold yR;split<;>rfl
theorem zf8 {s:RS} (h:(yR L s).err=0):s.err=0/\s.opn+1<=200:=by
 unfold yR at h
 split at h
 .simp at h
 .rename_i hc
  refine⟨h, ?_⟩
  by_cases q:s.opn+1>200
  .exact absurd ⟨h,q⟩ hc
  .omega
theorem zk4 {s:RS} (hs:RIn L s) (h:s.opn<=200):RIn L (yR L s):=⟨by rw[zS5];exact hs.at_,by rw[zb3];have:=hs.opn;omega⟩
theorem xh3 {s:RS} (hs:RIn L s) (h:1<=s.opn):RIn L (outF s):=⟨hs.at_,by have:=hs.opn;simp only[outF];omega⟩
theorem xF8 {k:RS->PR} (s:RS) (hs:RIn L s) (h2:s.opn<=200) (hk:(yR L s).err=0->PI L (yR L s) (k (yR L s))):PI L s (ze5 L k s):=by
 have hr:=zk4 hs h2
 have ho:=hs.opn
 unfold ze5
 split
 .rename_i he
  have hy:=hk he
  have h1:=hy.opn
  have h3:=hy.up
  rw[zb3]at h1
  rw[zS5]at h3
  refine⟨xh3 hy.rin om, ?_,h3,fun h=>⟨(zf8 he).1,(hy.err h).2⟩,hy.wide⟩
  simp only[outF]
  omega
 .rename_i he
  refine zC7 rfl (xh3 hr (by rw[zb3];omega)) ?_ ?_ (fun h=>absurd h he)
  .simp only[outF,zb3];omega
  .simp only[outF,zS5];exact A5 _
theorem xh4 (hL:LIn L): ∀(f:Nat) (w:Nat) (s:RS),RIn L s->s.opn<=200->201<=(f:Int)+s.opn->PI L s (pF L f w s)
 |0,w,s,hs,h2,hf=>by omega
 |f+1,w,s,hs,h2,hf=>by
  unfold pF
  refine xF8 s hs h2 (fun he=> ?_)
  have h3:=(zf8 he).2
  exact xu7 hL (o:=s.opn+1) (fun w t ht ho=>xh4 hL f w t ht om (by push_cast at hf;omega)) w _ (zk4 hs h2) (zb3 s)
structure PW (L:List GToken) (rec:Nat->RS->PR) (o:Int):Prop where
 ok: ∀w s,RIn L s->s.opn=o->PI L s (rec w s)
 chain: ∀k:Nat,k<=1-> ∀s,RIn L s->s.opn=o->VCalls prog 267 [.ptr 0 0,.int .i64 (k:Int)] [rB L s] (RR L (rec k s))
 not: ∀s,RIn L s->s.opn=o->VCalls prog 355 [.ptr 0 0] [rB L s] (RR L (rec 2 s))
 cmp: ∀s,RIn L s->s.opn=o->VCalls prog 364 [.ptr 0 0] [rB L s] (RR L (rec 3 s))
 sum: ∀s,RIn L s->s.opn=o->VCalls prog 369 [.ptr 0 0] [rB L s] (RR L (rec 4 s))
 prod: ∀s,RIn L s->s.opn=o->VCalls prog 372 [.ptr 0 0] [rB L s] (RR L (rec 5 s))
 unary: ∀s,RIn L s->s.opn=o->VCalls prog 373 [.ptr 0 0] [rB L s] (RR L (rec 6 s))
theorem zz4 {g:Tag} {L:List GToken} {s:RS} {x:PR} (h:x=(e,s)):wret (some (.agg [.int .i64 e.kind,.str e.s,.int .i64 e.v.kind,.int .i64 e.v.n,.str e.v.s,.sl g (e.args.map GExpr.row)])) 1 (RR L x) (rB L s::τ):=by
 subst h
 refine xH (r:= .agg [.int .i64 e.kind,.str e.s,.int .i64 e.v.kind,.int .i64 e.v.n,.str e.v.s,.sl .ro (e.args.map GExpr.row)]) (zm7 ⟨zT rfl,zT rfl,zT rfl,zT rfl,zT rfl,yJ,tV⟩) ⟨by rw[GExpr.row_eq],rfl⟩
def zB:Ob:= .box [.int .i64 0,.str [],.int .i64 0,.int .i64 0,.str [],.sl .full []]
theorem zE4 (h0:0<=o) (h1:o<=1000):IntKind.i64.wrap (o - 1)=o - 1:=i64_id om om
theorem wh7 (L:List GToken) (hL:LIn L) (rec:Nat->RS->PR) (s:RS) (hs:RIn L s) (h2:s.opn<=200) (aj:s.opn+1<=200->PW L rec (s.opn+1)):
  VCalls prog 369 [.ptr 0 0] [rB L s] (RR L (ze5 L (zg3 L rec 4) s)):=by
 have hr:=zP5 L hL s hs om
 have aa:=zk4 hs h2
 have ab:=zb3 (L:=L) s
 have ak:=zf8 (L:=L) (s:=s)
 have ho:=hs.opn
 have hM:ze5 L (zg3 L rec 4) s=if(yR L s).err=0 then((opsF L zl8 (rec 5) L.length (rec 5 (yR L s))).1,outF (opsF L zl8 (rec 5) L.length (rec 5 (yR L s))).2)else(zeroE,outF (yR L s)):=rfl
 generalize ze5 L (zg3 L rec 4) s=M at hM⊢
 generalize yR L s=s1 at hr aa ab ak hM
 have eo:=zE4 (o:=s1.opn) om om
 refine iV 1 func369 ntmps369 results369 fun c hc hb=> ?_
 by_cases q1:s1.err=0
 rotate_left
 .have af:(s1.err==0)=false:=by simpa using q1
  rw[if_neg q1]at hM
  rw[af]at hr
  refine zA ?_
  simp[go_sem]
  refine pR hr ?_
  simp[go_sem,rB,eo]
  exact zz4 (e:=zeroE) (s:=outF s1) hM
 have af:(s1.err==0)=true:=by simpa using q1
 rw[if_pos q1]at hM
 rw[af]at hr
 have hP:=aj (ak q1).2
 have ag:=hP.ok 5 s1 aa ab
 have al:=hP.prod s1 aa ab
 generalize rec 5 s1=x0 at ag al hM
 have ae:=zY1 L hL x0.2 ag.rin zl8 dC
 obtain⟨N,hN⟩:=eX L.length
 rw[hN]at hM
 refine zA ?_
 simp[go_sem]
 refine pR hr ?_
 simp[go_sem]
 refine za0 al cB rd_1 ?_
 simp[go_sem]
 refine pR ae ?_
 simp[go_sem]
 refine zH (S:=PR) [0,2,3,4] (fun x=> [.ptr 0 0,.ptr 1 0,.ptr 2 0,.str (anyF L x.2 zl8)]) (fun x=> [rB L x.2,zB,.box x.1.row]) (fun x=>N - x.2.at_) (fun x=>PI L s1 x/\ ∃n,N<=n+x.2.at_/\((opsF L zl8 (rec 5) n x).1,outF (opsF L zl8 (rec 5) n x).2)=M) hc hb x0 ⟨ag,N,om,hM.symm⟩ ?_ ?_
 .exact at_n 3 (by simp[go_sem,zB]) rfl (by simp[rB,zB,ltOb,ltC,ltK,GExpr.row_eq]) dC (zF sg rfl)
 rintro x ⟨hx,n,hn,hinv⟩
 have ax:=hx.rin.at_
 have ae:=zY1 L hL x.2 hx.rin zl8 dC
 have an:=zr6 L hL x.2 hx.rin
 have ad:=hx.opn
 by_cases q:anyF L x.2 zl8= []
 .have au:M=(x.1,outF x.2):=by
   cases n with
   |zero=>exact hinv.symm
   |succ n=>rw[opsF,if_pos q]at hinv;exact hinv.symm
  have av:IntKind.i64.wrap (x.2.opn - 1)=x.2.opn - 1:=by rw[ad];exact eo
  refine zA ?_
  simp[go_sem,q,rB,av]
  exact xY (s:=outF x.2) au
 obtain⟨n,rfl⟩: ∃m,n=m+1:=⟨n - 1,om⟩
 rw[opsF,if_neg q]at hinv
 have hi:=zC8 q
 have ao:=hx.rin.next hL hi
 have hy:=hP.ok 5 (zM x.2) ao (by show x.2.opn=_;rw[ad,ab])
 have aq:=hP.prod (zM x.2) ao (by show x.2.opn=_;rw[ad,ab])
 generalize rec 5 (zM x.2)=y at hy aq hinv
 have aw:=hy.up
 rw[za8]at aw
 have hz:PI L s1 (opF (tokF L x.2).place (anyF L x.2 zl8) [x.1,y.1] y.2):=zM6 _ _ hy.rin (by rw[hy.opn];exact ad) (by have:=hx.up;omega) (fun he=>(hx.err (hy.err he).1).1) sm (fun e he=>by
  simp only[Ae,Be,or_false]at he
  rcases he with rfl|rfl
  .exact hx.wide
  .exact hy.wide)
 have ah:=op_w L y.2 (tokF L x.2).place (anyF L x.2 zl8) [x.1,y.1] sm (fun e he=>by
  simp only[Ae,Be,or_false]at he
  rcases he with rfl|rfl
  .exact hx.wide
  .exact hy.wide) (fun he=>by
   have h1:=(hy.err he).2
   have h2:=(hx.err (hy.err he).1).2
   simp only[xZ]
   omega)
 have ar:(opF (tokF L x.2).place (anyF L x.2 zl8) [x.1,y.1] y.2).2.at_=y.2.at_:=zO9 _ _ _ _
 generalize opF (tokF L x.2).place (anyF L x.2 zl8) [x.1,y.1] y.2=z at hz ah hinv ar
 have ai:=zY1 L hL z.2 hz.rin zl8 dC
 have ay:=hz.rin.at_
 have hl:=hL.len
 have ei:IntKind.i64.wrap ((x.2.at_:Int)+1)=((x.2.at_+1:Nat):Int):=by rw[i64_id om om];omega
 have q':(anyF L x.2 zl8).isEmpty=false:=by simpa using q
 refine zA ?_
 simp[go_sem,q']
 refine pR an ?_
 simp[go_sem,rB,ei]
 simp only[Aj,Bx,GExpr.row_eq]at ah
 refine za5 [(3,1),(5,3),(7,3)] 1 3 sm kR kR ?_
 simp[go_sem]
 refine zs3 aq cB rd_1 ?_
 simp[go_sem,GExpr.row_eq]
 refine zs3 ah cB (wA ⟨zC rfl,zC rfl,zK,tV⟩) ?_
 simp[go_sem,GExpr.row_eq]
 refine pR ai ?_
 simp[go_sem]
 refine zG z ⟨om,⟨hz,n,om,hinv⟩, ?_⟩
 exact at_n 3 (by simp[go_sem,rB,zB,GExpr.row_eq]) rfl (by simp[zB,ltOb,ltC,ltK,GExpr.row_eq]) dC (zF sg rfl)
theorem wd0 (L:List GToken) (hL:LIn L) (rec:Nat->RS->PR) (s:RS) (hs:RIn L s) (h2:s.opn<=200) (aj:s.opn+1<=200->PW L rec (s.opn+1)):
  VCalls prog 372 [.ptr 0 0] [rB L s] (RR L (ze5 L (zg3 L rec 5) s)):=by
 have hr:=zP5 L hL s hs om
 have aa:=zk4 hs h2
 have ab:=zb3 (L:=L) s
 have ak:=zf8 (L:=L) (s:=s)
 have ho:=hs.opn
 have hM:ze5 L (zg3 L rec 5) s=if(yR L s).err=0 then((opsF L zl7 (rec 6) L.length (rec 6 (yR L s))).1,outF (opsF L zl7 (rec 6) L.length (rec 6 (yR L s))).2)else(zeroE,outF (yR L s)):=rfl
 generalize ze5 L (zg3 L rec 5) s=M at hM⊢
 generalize yR L s=s1 at hr aa ab ak hM
 have eo:=zE4 (o:=s1.opn) om om
 refine iV 1 func372 ntmps372 results372 fun c hc hb=> ?_
 by_cases q1:s1.err=0
 rotate_left
 .have af:(s1.err==0)=false:=by simpa using q1
  rw[if_neg q1]at hM
  rw[af]at hr
  refine zA ?_
  simp[go_sem]
  refine pR hr ?_
  simp[go_sem,rB,eo]
  exact zz4 (e:=zeroE) (s:=outF s1) hM
 have af:(s1.err==0)=true:=by simpa using q1
 rw[if_pos q1]at hM
 rw[af]at hr
 have hP:=aj (ak q1).2
 have ag:=hP.ok 6 s1 aa ab
 have al:=hP.unary s1 aa ab
 generalize rec 6 s1=x0 at ag al hM
 have ae:=zY1 L hL x0.2 ag.rin zl7 dC
 obtain⟨N,hN⟩:=eX L.length
 rw[hN]at hM
 refine zA ?_
 simp[go_sem]
 refine pR hr ?_
 simp[go_sem]
 refine za0 al cB rd_1 ?_
 simp[go_sem]
 refine pR ae ?_
 simp[go_sem]
 refine zH (S:=PR) [0,2,3,4] (fun x=> [.ptr 0 0,.ptr 1 0,.ptr 2 0,.str (anyF L x.2 zl7)]) (fun x=> [rB L x.2,zB,.box x.1.row]) (fun x=>N - x.2.at_) (fun x=>PI L s1 x/\ ∃n,N<=n+x.2.at_/\((opsF L zl7 (rec 6) n x).1,outF (opsF L zl7 (rec 6) n x).2)=M) hc hb x0 ⟨ag,N,om,hM.symm⟩ ?_ ?_
 .exact at_n 3 (by simp[go_sem,zB]) rfl (by simp[rB,zB,ltOb,ltC,ltK,GExpr.row_eq]) dC (zF sg rfl)
 rintro x ⟨hx,n,hn,hinv⟩
 have ax:=hx.rin.at_
 have ae:=zY1 L hL x.2 hx.rin zl7 dC
 have an:=zr6 L hL x.2 hx.rin
 have ad:=hx.opn
 by_cases q:anyF L x.2 zl7= []
 .have au:M=(x.1,outF x.2):=by
   cases n with
   |zero=>exact hinv.symm
   |succ n=>rw[opsF,if_pos q]at hinv;exact hinv.symm
  have av:IntKind.i64.wrap (x.2.opn - 1)=x.2.opn - 1:=by rw[ad];exact eo
  refine zA ?_
  simp[go_sem,q,rB,av]
  exact xY (s:=outF x.2) au
 obtain⟨n,rfl⟩: ∃m,n=m+1:=⟨n - 1,om⟩
 rw[opsF,if_neg q]at hinv
 have hi:=zC8 q
 have ao:=hx.rin.next hL hi
 have hy:=hP.ok 6 (zM x.2) ao (by show x.2.opn=_;rw[ad,ab])
 have aq:=hP.unary (zM x.2) ao (by show x.2.opn=_;rw[ad,ab])
 generalize rec 6 (zM x.2)=y at hy aq hinv
 have aw:=hy.up
 rw[za8]at aw
 have hz:PI L s1 (opF (tokF L x.2).place (anyF L x.2 zl7) [x.1,y.1] y.2):=zM6 _ _ hy.rin (by rw[hy.opn];exact ad) (by have:=hx.up;omega) (fun he=>(hx.err (hy.err he).1).1) sm (fun e he=>by
  simp only[Ae,Be,or_false]at he
  rcases he with rfl|rfl
  .exact hx.wide
  .exact hy.wide)
 have ah:=op_w L y.2 (tokF L x.2).place (anyF L x.2 zl7) [x.1,y.1] sm (fun e he=>by
  simp only[Ae,Be,or_false]at he
  rcases he with rfl|rfl
  .exact hx.wide
  .exact hy.wide) (fun he=>by
   have h1:=(hy.err he).2
   have h2:=(hx.err (hy.err he).1).2
   simp only[xZ]
   omega)
 have ar:(opF (tokF L x.2).place (anyF L x.2 zl7) [x.1,y.1] y.2).2.at_=y.2.at_:=zO9 _ _ _ _
 generalize opF (tokF L x.2).place (anyF L x.2 zl7) [x.1,y.1] y.2=z at hz ah hinv ar
 have ai:=zY1 L hL z.2 hz.rin zl7 dC
 have ay:=hz.rin.at_
 have hl:=hL.len
 have ei:IntKind.i64.wrap ((x.2.at_:Int)+1)=((x.2.at_+1:Nat):Int):=by rw[i64_id om om];omega
 have q':(anyF L x.2 zl7).isEmpty=false:=by simpa using q
 refine zA ?_
 simp[go_sem,q']
 refine pR an ?_
 simp[go_sem,rB,ei]
 simp only[Aj,Bx,GExpr.row_eq]at ah
 refine za5 [(3,1),(5,3),(7,3)] 1 3 sm kR kR ?_
 simp[go_sem]
 refine zs3 aq cB rd_1 ?_
 simp[go_sem,GExpr.row_eq]
 refine zs3 ah cB (wA ⟨zC rfl,zC rfl,zK,tV⟩) ?_
 simp[go_sem,GExpr.row_eq]
 refine pR ai ?_
 simp[go_sem]
 refine zG z ⟨om,⟨hz,n,om,hinv⟩, ?_⟩
 exact at_n 3 (by simp[go_sem,rB,zB,GExpr.row_eq]) rfl (by simp[zB,ltOb,ltC,ltK,GExpr.row_eq]) dC (zF sg rfl)
theorem yG9 (L:List GToken) (rec:Nat->RS->PR) (o:Int) (hP:PW L rec o) (s:RS) (hs:RIn L s) (ho:s.opn=o):VCalls prog 335 [.ptr 0 0,.int .i64 0] [rB L s] (RR L (rec 1 s)):=by
 have aa:=hP.chain 1 (A5 _) s hs ho
 generalize rec 1 s=x at aa⊢
 refine iW 1 func335 ntmps335 results335 fun c hc hb=>zL ?_
 simp[go_sem]
 refine za0 aa cB (wA ⟨zC rfl,tV⟩) ?_
 simp[go_sem,GExpr.row_eq]
 exact xY rfl
theorem yH0 (L:List GToken) (rec:Nat->RS->PR) (o:Int) (hP:PW L rec o) (s:RS) (hs:RIn L s) (ho:s.opn=o):VCalls prog 335 [.ptr 0 0,.int .i64 1] [rB L s] (RR L (rec 2 s)):=by
 have aa:=hP.not s hs ho
 generalize rec 2 s=x at aa⊢
 refine iW 1 func335 ntmps335 results335 fun c hc hb=>zL ?_
 simp[go_sem]
 refine za0 aa cB rd_1 ?_
 simp[go_sem,GExpr.row_eq]
 exact xY rfl
theorem xb4 (L:List GToken) (s:RS) (w:List UInt8) (hw:w≠ []):(anyF L s [w]= []↔isT L w s=false)/\(isT L w s=true->anyF L s [w]=w):=by
 unfold anyF
 cases isT L w s
 .simp[anyF]
 .simp[hw]
theorem xv2 (L:List GToken) (hL:LIn L) (rec:Nat->RS->PR) (s:RS) (hs:RIn L s) (h2:s.opn<=200) (aj:s.opn+1<=200->PW L rec (s.opn+1)):
  VCalls prog 267 [.ptr 0 0,.int .i64 0] [rB L s] (RR L (ze5 L (zg3 L rec 0) s)):=by
 have hr:=zP5 L hL s hs om
 have aa:=zk4 hs h2
 have ab:=zb3 (L:=L) s
 have ak:=zf8 (L:=L) (s:=s)
 have ho:=hs.opn
 have hM:ze5 L (zg3 L rec 0) s=if(yR L s).err=0 then((opsF L [wOR] (rec 1) L.length (rec 1 (yR L s))).1,outF (opsF L [wOR] (rec 1) L.length (rec 1 (yR L s))).2)else(zeroE,outF (yR L s)):=rfl
 generalize ze5 L (zg3 L rec 0) s=M at hM⊢
 generalize yR L s=s1 at hr aa ab ak hM
 have eo:=zE4 (o:=s1.opn) om om
 have ad:=yL4
 refine iV 1 func267 ntmps267 results267 fun c hc hb=> ?_
 by_cases q1:s1.err=0
 rotate_left
 .have ah:(s1.err==0)=false:=by simpa using q1
  rw[if_neg q1]at hM
  rw[ah]at hr
  refine zA ?_
  simp[go_sem]
  refine pR hr ?_
  simp[go_sem,rB,eo]
  exact zz4 (e:=zeroE) (s:=outF s1) hM
 have ah:(s1.err==0)=true:=by simpa using q1
 rw[if_pos q1]at hM
 rw[ah]at hr
 have hP:=aj (ak q1).2
 have al:=hP.ok 1 s1 aa ab
 have an:=yG9 L rec _ hP s1 aa ab
 generalize rec 1 s1=x0 at al an hM
 obtain⟨N,hN⟩:=eX L.length
 rw[hN]at hM
 refine zA ?_
 simp[go_sem]
 refine pR hr ?_
 simp[go_sem]
 refine za0 an cB (wA ⟨zC rfl,tV⟩) ?_
 simp[go_sem]
 refine zH (S:=PR) [0,1,4,5] (fun x=> [.ptr 0 0,.int .i64 0,.ptr 1 0,.ptr 2 0]) (fun x=> [rB L x.2,zB,.box x.1.row]) (fun x=>N - x.2.at_) (fun x=>PI L s1 x/\ ∃n,N<=n+x.2.at_/\((opsF L [wOR] (rec 1) n x).1,outF (opsF L [wOR] (rec 1) n x).2)=M) hc hb x0 ⟨al,N,om,hM.symm⟩ ?_ ?_
 .exact at_n 3 (by simp[go_sem,zB]) rfl (by simp[rB,zB,ltOb,ltC,ltK,GExpr.row_eq]) dC (zF sg rfl)
 rintro x ⟨hx,n,hn,hinv⟩
 have a6:=hx.rin.at_
 have ae:=is_w L hL x.2 hx.rin wOR
 have ao:=zr6 L hL x.2 hx.rin
 have af:=hx.opn
 obtain⟨aw,ax⟩:=xb4 L x.2 wOR dC
 by_cases q:isT L wOR x.2=false
 .rw[q]at ae
  have ay:M=(x.1,outF x.2):=by
   cases n with
   |zero=>exact hinv.symm
   |succ n=>rw[opsF,if_pos (aw.2 q)]at hinv;exact hinv.symm
  have az:IntKind.i64.wrap (x.2.opn - 1)=x.2.opn - 1:=by rw[af];exact eo
  refine zA ?_
  simp[go_sem]
  refine pC ad ?_
  simp[go_sem]
  refine pR ae ?_
  simp[go_sem,rB,az]
  exact xY (s:=outF x.2) ay
 have q:isT L wOR x.2=true:=by simpa using q
 rw[q]at ae
 obtain⟨n,rfl⟩: ∃m,n=m+1:=⟨n - 1,om⟩
 have ag:=ax q
 rw[opsF,if_neg (by rw[ag];decide),ag]at hinv
 have aq:=hx.rin.next hL q
 have hy:=hP.ok 1 (zM x.2) aq (by show x.2.opn=_;rw[af,ab])
 have ar:=yG9 L rec _ hP (zM x.2) aq (by show x.2.opn=_;rw[af,ab])
 generalize rec 1 (zM x.2)=y at hy ar hinv
 have a1:=hy.up
 rw[za8]at a1
 have au: ∀e∈ [x.1,y.1],Wide e:=fun e he=>by
  simp only[Ae,Be,or_false]at he
  rcases he with rfl|rfl
  .exact hx.wide
  .exact hy.wide
 have hz:PI L s1 (opF (tokF L x.2).place wOR [x.1,y.1] y.2):=zM6 _ _ hy.rin (by rw[hy.opn];exact af) (by have:=hx.up;omega) (fun he=>(hx.err (hy.err he).1).1) sm au
 have ai:=op_w L y.2 (tokF L x.2).place wOR [x.1,y.1] sm au (fun he=>by
   have h1:=(hy.err he).2
   have h2:=(hx.err (hy.err he).1).2
   simp only[xZ]
   omega)
 have av:(opF (tokF L x.2).place wOR [x.1,y.1] y.2).2.at_=y.2.at_:=zO9 _ _ _ _
 generalize opF (tokF L x.2).place wOR [x.1,y.1] y.2=z at hz ai hinv av
 have a7:=hz.rin.at_
 have hl:=hL.len
 have ei:IntKind.i64.wrap ((x.2.at_:Int)+1)=((x.2.at_+1:Nat):Int):=by rw[i64_id om om];omega
 simp only[Aj,Bx,GExpr.row_eq]at ai
 refine zA ?_
 simp[go_sem]
 refine pC ad ?_
 simp[go_sem]
 refine pR ae ?_
 simp[go_sem]
 refine pR ao ?_
 simp[go_sem,rB,ei]
 refine za5 [(2,0),(11,3),(13,3)] 1 3 sm kR kR ?_
 simp[go_sem]
 refine pD ad ?_
 simp[go_sem]
 refine zs3 ar cB (wA ⟨zC rfl,tV⟩) ?_
 simp[go_sem,GExpr.row_eq]
 refine zs3 ai cB (wA ⟨zC rfl,zC rfl,zK,tV⟩) ?_
 simp[go_sem,GExpr.row_eq]
 refine zG z ⟨om,⟨hz,n,om,hinv⟩, ?_⟩
 exact at_n 3 (by simp[go_sem,rB,zB,GExpr.row_eq]) rfl (by simp[zB,ltOb,ltC,ltK,GExpr.row_eq]) dC (zF sg rfl)
theorem xv3 (L:List GToken) (hL:LIn L) (rec:Nat->RS->PR) (s:RS) (hs:RIn L s) (h2:s.opn<=200) (aj:s.opn+1<=200->PW L rec (s.opn+1)):
  VCalls prog 267 [.ptr 0 0,.int .i64 1] [rB L s] (RR L (ze5 L (zg3 L rec 1) s)):=by
 have hr:=zP5 L hL s hs om
 have aa:=zk4 hs h2
 have ab:=zb3 (L:=L) s
 have ak:=zf8 (L:=L) (s:=s)
 have ho:=hs.opn
 have hM:ze5 L (zg3 L rec 1) s=if(yR L s).err=0 then((opsF L [wAND] (rec 2) L.length (rec 2 (yR L s))).1,outF (opsF L [wAND] (rec 2) L.length (rec 2 (yR L s))).2)else(zeroE,outF (yR L s)):=rfl
 generalize ze5 L (zg3 L rec 1) s=M at hM⊢
 generalize yR L s=s1 at hr aa ab ak hM
 have eo:=zE4 (o:=s1.opn) om om
 have ad:=yL4
 refine iV 1 func267 ntmps267 results267 fun c hc hb=> ?_
 by_cases q1:s1.err=0
 rotate_left
 .have ah:(s1.err==0)=false:=by simpa using q1
  rw[if_neg q1]at hM
  rw[ah]at hr
  refine zA ?_
  simp[go_sem]
  refine pR hr ?_
  simp[go_sem,rB,eo]
  exact zz4 (e:=zeroE) (s:=outF s1) hM
 have ah:(s1.err==0)=true:=by simpa using q1
 rw[if_pos q1]at hM
 rw[ah]at hr
 have hP:=aj (ak q1).2
 have al:=hP.ok 2 s1 aa ab
 have an:=yH0 L rec _ hP s1 aa ab
 generalize rec 2 s1=x0 at al an hM
 obtain⟨N,hN⟩:=eX L.length
 rw[hN]at hM
 refine zA ?_
 simp[go_sem]
 refine pR hr ?_
 simp[go_sem]
 refine za0 an cB (wA ⟨zC rfl,tV⟩) ?_
 simp[go_sem]
 refine zH (S:=PR) [0,1,4,5] (fun x=> [.ptr 0 0,.int .i64 1,.ptr 1 0,.ptr 2 0]) (fun x=> [rB L x.2,zB,.box x.1.row]) (fun x=>N - x.2.at_) (fun x=>PI L s1 x/\ ∃n,N<=n+x.2.at_/\((opsF L [wAND] (rec 2) n x).1,outF (opsF L [wAND] (rec 2) n x).2)=M) hc hb x0 ⟨al,N,om,hM.symm⟩ ?_ ?_
 .exact at_n 3 (by simp[go_sem,zB]) rfl (by simp[rB,zB,ltOb,ltC,ltK,GExpr.row_eq]) dC (zF sg rfl)
 rintro x ⟨hx,n,hn,hinv⟩
 have a6:=hx.rin.at_
 have ae:=is_w L hL x.2 hx.rin wAND
 have ao:=zr6 L hL x.2 hx.rin
 have af:=hx.opn
 obtain⟨aw,ax⟩:=xb4 L x.2 wAND dC
 by_cases q:isT L wAND x.2=false
 .rw[q]at ae
  have ay:M=(x.1,outF x.2):=by
   cases n with
   |zero=>exact hinv.symm
   |succ n=>rw[opsF,if_pos (aw.2 q)]at hinv;exact hinv.symm
  have az:IntKind.i64.wrap (x.2.opn - 1)=x.2.opn - 1:=by rw[af];exact eo
  refine zA ?_
  simp[go_sem]
  refine pC ad ?_
  simp[go_sem]
  refine pR ae ?_
  simp[go_sem,rB,az]
  exact xY (s:=outF x.2) ay
 have q:isT L wAND x.2=true:=by simpa using q
 rw[q]at ae
 obtain⟨n,rfl⟩: ∃m,n=m+1:=⟨n - 1,om⟩
 have ag:=ax q
 rw[opsF,if_neg (by rw[ag];decide),ag]at hinv
 have aq:=hx.rin.next hL q
 have hy:=hP.ok 2 (zM x.2) aq (by show x.2.opn=_;rw[af,ab])
 have ar:=yH0 L rec _ hP (zM x.2) aq (by show x.2.opn=_;rw[af,ab])
 generalize rec 2 (zM x.2)=y at hy ar hinv
 have a1:=hy.up
 rw[za8]at a1
 have au: ∀e∈ [x.1,y.1],Wide e:=fun e he=>by
  simp only[Ae,Be,or_false]at he
  rcases he with rfl|rfl
  .exact hx.wide
  .exact hy.wide
 have hz:PI L s1 (opF (tokF L x.2).place wAND [x.1,y.1] y.2):=zM6 _ _ hy.rin (by rw[hy.opn];exact af) (by have:=hx.up;omega) (fun he=>(hx.err (hy.err he).1).1) sm au
 have ai:=op_w L y.2 (tokF L x.2).place wAND [x.1,y.1] sm au (fun he=>by
   have h1:=(hy.err he).2
   have h2:=(hx.err (hy.err he).1).2
   simp only[xZ]
   omega)
 have av:(opF (tokF L x.2).place wAND [x.1,y.1] y.2).2.at_=y.2.at_:=zO9 _ _ _ _
 generalize opF (tokF L x.2).place wAND [x.1,y.1] y.2=z at hz ai hinv av
 have a7:=hz.rin.at_
 have hl:=hL.len
 have ei:IntKind.i64.wrap ((x.2.at_:Int)+1)=((x.2.at_+1:Nat):Int):=by rw[i64_id om om];omega
 simp only[Aj,Bx,GExpr.row_eq]at ai
 refine zA ?_
 simp[go_sem]
 refine pC ad ?_
 simp[go_sem]
 refine pR ae ?_
 simp[go_sem]
 refine pR ao ?_
 simp[go_sem,rB,ei]
 refine za5 [(2,0),(11,3),(13,3)] 1 3 sm kR kR ?_
 simp[go_sem]
 refine pD ad ?_
 simp[go_sem]
 refine zs3 ar cB (wA ⟨zC rfl,tV⟩) ?_
 simp[go_sem,GExpr.row_eq]
 refine zs3 ai cB (wA ⟨zC rfl,zC rfl,zK,tV⟩) ?_
 simp[go_sem,GExpr.row_eq]
 refine zG z ⟨om,⟨hz,n,om,hinv⟩, ?_⟩
 exact at_n 3 (by simp[go_sem,rB,zB,GExpr.row_eq]) rfl (by simp[zB,ltOb,ltC,ltK,GExpr.row_eq]) dC (zF sg rfl)
end Go.Proofs.YtefbicjgbaaieaaGreat
