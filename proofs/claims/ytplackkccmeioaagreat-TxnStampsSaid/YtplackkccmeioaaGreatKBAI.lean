/-
  The document's reader of statements: what a SELECT tells, and WHERE, over trees (the library Vx); used by the theorem at the end of the claim.
  Conditions: as each theorem states them.
-/
import Derived.Test.YtplackkccmeioaaGreatKBAE
set_option maxHeartbeats 8000000
namespace Go.Proofs.YtplackkccmeioaaGreat
open Go Go.Vx Go.Proofs.Tryz
set_option maxRecDepth 100000
variable {τ:St}{P:Program}{c:Ctx}{f:FuncId}{bY:List V}{cc:List V}{KV:V->St->Prop}
def JC (s:ahP):ahP:=if s= [60]then [62]else if s= [60,61]then [62,61]else if s= [62]then [60]else if s= [62,61]then [60,61]else s
theorem ZK (s:ahP):Pure prog 238 [.str s] (.str (JC s)):=by
 generalize hM:JC s=M
 have ret: ∀(r:ahP) (I:St),r=M->cw (some (.str r)) 0 (λr s=>r= .str M/\s= []) I:=λr I h=>by subst h;exact wR
 unfold JC at hM
 refine iW 0 func238 ntmps238 results238 λc hc hb=>zM ?_
 simp[go_sem]
 repeat' (first|(refine xE (λq=> ?_) (λq=> ?_)<;>simp[go_sem,q])|(refine zU (λq=> ?_) (λq=> ?_)<;>simp[go_sem,q]))
 all_goals exact ret _ _ (by simp_all)
def kB:List ahP:= [[79,82],[65,78,68],[61],[60,62],[60],[60,61],[62],[62,61],[43],[45],[42],[47],[37]]
def l7:List ahP:= [[78,79,84],[73,83,78,85,76,76],[78,79,84,78,85,76,76],[78,69,71]]
def sL (s:ahP):Int:=if kB.contains s=true then 2 else if l7.contains s=true then 1 else 0
def uk (b:Bool):bK:=⟨1,if b then 1 else 0,[]⟩
theorem Fj (b:Bool):Pure prog 217 [.bool b] (.agg (uk b).row):=by
 refine iW 0 func217 ntmps217 results217 λc hc hb=>zM ?_
 simp[go_sem]
 cases b<;>simp[go_sem]<;>exact wR
theorem JD (v:bK):Pure prog 305 [.agg v.row] (.bool (v.kind==0)):=by
 refine iW 0 func305 ntmps305 results305 λc hc hb=>zM ?_
 simp[go_sem]
 exact wR
def vO (many MV:Bool) (k:Int):Int×Int:=if many=false then(0,9)else if MV=false then(0,15)else(k,0)
def wF (r:Int×Int):V:= .cy [.int .i64 r.1,.int .i64 r.2]
theorem wU {r:Int×Int} {a e:Int} {I:St} (h:r=(a,e)):cw (some (.cy [.int .i64 a,.int .i64 e])) 0 (λv s=>v=wF r/\s= []) I:=by
 subst h
 exact wR
theorem JE (many aa:Bool) (k:Int):Pure prog 295 [.bool many,.bool aa,.int .i64 k] (wF (vO many aa k)):=by
 refine iW 0 func295 ntmps295 results295 λc hc hb=>zM ?_
 cases many<;>cases aa<;>simp[go_sem]<;>exact wU rfl
def ij (l:ahS) (k:Int):Bool:=l.all λx=>x==k||x==0
theorem JF (l:ahS) (k:Int) (hl:l.length<=maxLen):Pure prog 296 [.sl .ro (l.map λn=> [V.int .i64 n]),.int .i64 k] (.bool (ij l k)):=by
 generalize hM:ij l k=M
 have ret: ∀(r:Bool) (I:St),r=M->cw (some (.bool r)) 0 (λr s=>r= .bool M/\s= []) I:=λr I h=>by subst h;exact wR
 unfold ij at hM
 refine iV 0 func296 ntmps296 results296 λc hc hb=> ?_
 refine zA ?_
 simp[go_sem]
 refine zI (S:=Nat) [1,7,8,9] (λi=> [.int .i64 k,.sl .ro (l.map λn=> [V.int .i64 n]),.int .i64 l.length,.int .i64 i]) (λ_=> []) (λi=>l.length - i) (λi=>i<=l.length/\((l.drop i).all λx=>x==k||x==0)=M) hc hb 0 ⟨A4 _,hM⟩ ?_ ?_
 .exact aO
 rintro i ⟨hi,hinv⟩
 by_cases q:i<l.length
 rotate_left
 .have e:l.drop i= []:=A9 om
  rw[e]at hinv
  refine zA ?_
  simp[go_sem,q]
  exact ret _ _ hinv
 have ei:=zQ q (by unfold maxLen at hl;omega)
 obtain⟨r,hr⟩:=eX (l[i])
 rw[A5 q,Bv,hr]at hinv
 refine zA ?_
 simp[go_sem,q,hr]
 by_cases w1:r=k
 .simp[go_sem,w1,ei]
  rw[w1,beq_self_eq_true,Di,B7]at hinv
  exact zH (i+1) ⟨om,⟨q,hinv⟩,aO⟩
 have aa:(r !=k)=true:=sU w1
 by_cases w2:r=0
 .have w3:(r !=0)=false:=by simp[w2]
  simp[go_sem,aa,w3,ei]
  rw[w2,beq_self_eq_true,ahN,B7]at hinv
  exact zH (i+1) ⟨om,⟨q,hinv⟩,aO⟩
 have ab:(r !=0)=true:=sU w2
 simp[go_sem,aa,ab]
 exact ret _ _ (by rw[<-hinv,show(r==k)=false by simpa using w1,show(r==0)=false by simpa using w2];rfl)
def oy (s:ahP) (l:ahS):Int×Int:=
 if s= [73,83,78,85,76,76]\/s= [78,79,84,78,85,76,76]then vO ((l.length:Int)==1) true 1
 else if s= [78,79,84]then vO ((l.length:Int)==1) (ij l 1) 1
 else if s= [78,69,71]then vO ((l.length:Int)==1) (ij l 2) 2
 else if s= [79,82]\/s= [65,78,68]then vO ((l.length:Int)==2) (ij l 1) 1
 else if s= [43]\/s= [45]\/s= [42]\/s= [47]\/s= [37]then vO ((l.length:Int)==2) (ij l 2) 2
 else if s= [61]\/s= [60,62]\/s= [60]\/s= [60,61]\/s= [62]\/s= [62,61]then
  vO ((l.length:Int)==2) ((l.length:Int)==2&&(l.getD 0 0==l.getD 1 0||(l.getD 0 0==0||l.getD 1 0==0))) 1
 else(0,9)
theorem ZL (s:ahP) (x y:Int):Pure prog 253 [.str s,.sl .ro [[.int .i64 x],[.int .i64 y]]] (wF (oy s [x,y])):=by
 generalize hM:oy s [x,y]=M
 have ret: ∀(r:Int×Int) (I:St),r=M->cw (some (.cy [.int .i64 r.1,.int .i64 r.2])) 0 (λr s=>r=wF M/\s= []) I:=λr I h=>by subst h;exact zX (zC rfl) (by trivial)
 unfold oy at hM
 have h1:=JF [x,y] 1 (by unfold maxLen;simp)
 have h2:=JF [x,y] 2 (by unfold maxLen;simp)
 simp only[Ai,Bh]at h1 h2
 generalize ij [x,y] 1=a1 at h1 hM
 generalize ij [x,y] 2=a2 at h2 hM
 simp only[List.getD_cons_zero,List.getD_cons_succ]at hM
 refine iW 0 func253 ntmps253 results253 λc hc hb=>zM ?_
 simp[go_sem]
 repeat' (first
  |(refine zU (λq=> ?_) (λq=> ?_)<;>simp[go_sem,q])
  |(refine xE (λq=> ?_) (λq=> ?_)<;>simp[go_sem,q])
  |(refine yL [(23,0)] 0 rfl kR kR ?_;simp[go_sem])
  |(refine pC h1 ?_;simp[go_sem])
  |(refine pC h2 ?_;simp[go_sem])
  |(refine pC (JE _ _ _) ?_;simp[go_sem,wF])
  |(refine pD (JE _ _ _) ?_;simp[go_sem,wF]))
 all_goals first|exact ret _ _ (by simp_all)|exact ret (0,9) _ (by simp_all)
theorem ZM (s:ahP) (l:ahS) (hl:l.length<=maxLen) (hn:((l.length:Int)==2)=false):Pure prog 253 [.str s,.sl .ro (l.map λn=> [V.int .i64 n])] (wF (oy s l)):=by
 generalize hM:oy s l=M
 have ret: ∀(r:Int×Int) (I:St),r=M->cw (some (.cy [.int .i64 r.1,.int .i64 r.2])) 0 (λr s=>r=wF M/\s= []) I:=λr I h=>by subst h;exact zX (zC rfl) (by trivial)
 unfold oy at hM
 have h1:=JF l 1 hl
 have h2:=JF l 2 hl
 generalize ij l 1=a1 at h1 hM
 generalize ij l 2=a2 at h2 hM
 simp only[hn,Dp]at hM
 refine iW 0 func253 ntmps253 results253 λc hc hb=>zM ?_
 simp[go_sem]
 repeat' (first
  |(refine zU (λq=> ?_) (λq=> ?_)<;>simp[go_sem,q,hn])
  |(refine yL [(23,0)] 0 rfl kR kR ?_;simp[go_sem])
  |(refine pC h1 ?_;simp[go_sem])
  |(refine pC h2 ?_;simp[go_sem])
  |(refine pC (JE _ _ _) ?_;simp[go_sem,wF])
  |(refine pD (JE _ _ _) ?_;simp[go_sem,wF]))
 all_goals first|exact ret _ _ (by simp_all)|exact ret (0,9) _ (by simp_all)
theorem ZN (s:ahP) (l:ahS) (hl:l.length<=maxLen):Pure prog 253 [.str s,.sl .ro (l.map λn=> [V.int .i64 n])] (wF (oy s l)):=by
 by_cases h:l.length=2
 .match l,h with
  | [x,y],_=>grind[ZL]
 grind[ZM]
theorem zf {ρ:Nat->Nat} {g:Tag} {rows ee:List (List V)} (h:ee=rows):cP ρ (.sl .ro ee) (.sl g rows):=by subst h;exact zK
theorem JG {n:Int} (h:0<=n) (h2:n<=255):IntKind.u8.wrap n=n:=by
 unfold IntKind.wrap
 simp[IntKind.bits,IntKind.signed]
 omega
def yP (c:UInt8):UInt8:=if 97<=c.toNat/\c.toNat<=122 then UInt8.ofNat (c.toNat - 32)else c
def wW (c:UInt8):Bool:=decide (48<=c.toNat/\c.toNat<=57)
def l8 (c:UInt8):Bool:=decide (65<=(yP c).toNat/\(yP c).toNat<=90)||decide (c.toNat=95)
theorem MW (c:UInt8):Pure prog 181 [.int .u8 c.toNat] (.int .u8 (yP c).toNat):=by
 have hc:=c.toNat_lt
 have ret: ∀(r:Int) (I:St),r=((yP c).toNat:Int)->cw (some (.int .u8 r)) 0 (λr s=>r= .int .u8 (yP c).toNat/\s= []) I:=λr I h=>by subst h;exact wR
 unfold yP at ret⊢
 obtain⟨n,hn⟩:=eX c.toNat
 have aa:n<=255->(UInt8.ofNat (n - 32)).toNat=n - 32:=λh=>by
  rw[UInt8.toNat_ofNat'];exact Cy om
 rw[hn]at hc ret⊢
 refine iW 0 func181 ntmps181 results181 λc hc hb=>zM ?_
 simp[go_sem]
 refine xE (λq=> ?_) (λq=> ?_)
 .have q1:97<=n:=by simp at q;omega
  simp[go_sem,q]
  refine zU (λq2=> ?_) (λq2=> ?_)
  .have q2:n<=122:=by simp at q2;omega
   have e1:IntKind.u8.wrap ((n:Int) - 97)=(n:Int) - 97:=JG om om
   have e2:IntKind.u8.wrap ((n:Int) - 97+65)=(n:Int) - 97+65:=JG om om
   simp[go_sem,e1,e2]
   exact ret _ _ (by rw[ahg ⟨q1,q2⟩,aa om];omega)
  .have q2: ¬n<=122:=by simp at q2;omega
   simp[go_sem]
   exact ret _ _ (by rw[ahf (λh=>q2 h.2),hn])
 .have q1: ¬97<=n:=by simp at q;omega
  simp[go_sem,q]
  exact ret _ _ (by rw[ahf (λh=>q1 h.1),hn])
theorem G4 (c:UInt8):Pure prog 180 [.int .u8 c.toNat] (.bool (wW c)):=by
 unfold wW
 generalize c.toNat=n
 generalize hM:decide (48<=n/\n<=57)=M
 have ret: ∀(r:Bool) (I:St),r=M->cw (some (.bool r)) 0 (λr s=>r= .bool M/\s= []) I:=λr I h=>by subst h;exact wR
 refine iW 0 func180 ntmps180 results180 λc hc hb=>zM ?_
 simp[go_sem]
 refine xE (λq=> ?_) (λq=> ?_)
 .simp[go_sem,q]
  refine ret _ _ ?_
  rw[<-hM]
  simp at q
  exact decide_eq_decide.2 om
 .simp[go_sem,q]
  refine ret _ _ ?_
  rw[<-hM]
  simp at q
  exact(ahh om).symm
theorem JH (c:UInt8):Pure prog 179 [.int .u8 c.toNat] (.bool (l8 c)):=by
 have hg:=MW c
 unfold l8
 revert hg
 generalize (yP c).toNat=g
 generalize c.toNat=n
 generalize hM:(decide (65<=g/\g<=90)||decide (n=95))=M
 have ret: ∀(r:Bool) (I:St),r=M->cw (some (.bool r)) 0 (λr s=>r= .bool M/\s= []) I:=λr I h=>by subst h;exact wR
 have aa: ∀(a:Nat) (b:Bool),((a:Int)==95)=b->decide (a=95)=b:=λa b h=>by
  rw[<-h]
  by_cases q:a=95
  .subst q;rfl
  .rw[ahh q]
   exact(beq_eq_false_iff_ne.2 om).symm
 intro hg
 refine iW 0 func179 ntmps179 results179 λc hc hb=>zM ?_
 simp[go_sem]
 refine pC hg ?_
 simp[go_sem]
 refine xE (λq=> ?_) (λq=> ?_)
 .simp[go_sem,q]
  refine pC hg ?_
  simp[go_sem]
  simp at q
  refine xE (λq2=> ?_) (λq2=> ?_)
  .have q3: ¬g<=90:=by simp at q2;omega
   simp[go_sem,q2]
   exact ret _ _ (by rw[<-hM,ahh (λh=>q3 h.2),C6];exact(aa n _ rfl).symm)
  .have q3:g<=90:=by simp at q2;omega
   simp[go_sem,q2]
   exact ret _ _ (by rw[<-hM,ahi ⟨om,q3⟩];rfl)
 .have q3: ¬65<=g:=by simp at q;omega
  simp[go_sem,q]
  exact ret _ _ (by rw[<-hM,ahh (λh=>q3 h.1),C6];exact(aa n _ rfl).symm)
def jf:List ahP:= [[65,76,76],[65,78,68],[65,83],[65,83,67],[66,69,84,87,69,69,78],[66,79,85,78,68],[66,89],[67,79,85,78,84],[68,69,76,69,84,69],[68,69,83,67],[69,88,65,67,84],[70,65,76,83,69],[70,82,79,77],[73,78,83,69,82,84],[73,78,84,79],[73,83],[76,73,77,73,84],[78,79,84],[78,85,76,76],[78,79,87],[79,70],[79,82],[79,82,68,69,82],[83,69,76,69,67,84],[83,69,84],[83,85,77],[83,89,83,84,69,77],[84,73,77,69],[84,82,85,69],[85,80,68,65,84,69],[86,65,76,85,69,83],[87,72,69,82,69]]
theorem JI:jf.length=32:=rfl
theorem ZO:Pure prog 247 [] (.sl .ro (jf.map λs=> [.str s])):=by
 refine iW 0 func247 ntmps247 results247 λc hc hb=>zM ?_
 simp[go_sem]
 exact zX (zf (by simp[jf])) ⟨rfl,rfl⟩
def um (c:UInt8):Bool:=(l8 c||wW c)&&(yP c==c)
def k5 (s:ahP):Bool:=decide (1<=s.length/\s.length<=16)&&(!wW (s.headD 0)&&(s.all um&& !jf.contains s))
theorem MX (s:ahP) (hl:s.length<=maxLen):Pure prog 187 [.str s] (.bool (k5 s)):=by
 generalize hM:k5 s=M
 unfold k5 at hM
 have ret: ∀(r:Bool) (I:St),r=M->cw (some (.bool r)) 0 (λr s=>r= .bool M/\s= []) I:=λr I h=>by subst h;exact wR
 refine iV 0 func187 ntmps187 results187 λc hc hb=> ?_
 refine zA ?_
 simp[go_sem]
 by_cases h0:s.length=0
 .have ae:((s.length:Int)==0)=true:=sU h0
  simp[go_sem,ae]
  exact ret _ _ (by rw[<-hM,ahh om];rfl)
 have ae:((s.length:Int)==0)=false:=sU h0
 simp[go_sem,ae]
 by_cases ah:s.length<=16
 rotate_left
 .have ad:decide (16<(s.length:Int))=true:=by simp;omega
  simp[go_sem,ad]
  exact ret _ _ (by rw[<-hM,ahh om];rfl)
 have ad:decide (16<(s.length:Int))=false:=by simp;omega
 rw[ahi ⟨om,ah⟩,B7]at hM
 have hp:0<s.length:=om
 obtain⟨c0,af⟩: ∃c,s[0]=c:=⟨_,rfl⟩
 have ai:s.headD 0=c0:=by
  rw[<-af]
  cases s with
  |nil=>simp at hp
  |cons x l=>rfl
 rw[ai]at hM
 simp[go_sem,ad,hp,af]
 try (refine zJ om ?_;simp[go_sem])
 refine pC (G4 c0) ?_
 simp[go_sem]
 refine zU (λhd=> ?_) (λhd=> ?_)
 .simp[go_sem]
  exact ret _ _ (by rw[<-hM,hd];rfl)
 rw[hd,Bool.not_false,B7]at hM
 simp[go_sem]
 refine zI (S:=Nat) [0,3] (λi=> [.str s,.int .i64 i]) (λ_=> []) (λi=>s.length - i) (λi=>i<=s.length/\(s.drop i).all um=s.all um) hc hb 0 ⟨A4 _,rfl⟩ ?_ ?_
 .exact aO
 rintro i ⟨hi,hinv⟩
 refine zA ?_
 simp[go_sem]
 refine zU (λq=> ?_) (λq=> ?_)
 .have q:i<s.length:=sU q
  have ei:=zQ q om
  obtain⟨c1,aa⟩: ∃c,s[i]=c:=⟨_,rfl⟩
  rw[A5 q,Bv,aa]at hinv
  have cN:um c1=((l8 c1||wW c1)&&(yP c1==c1)):=rfl
  have g1:=JH c1
  have g2:=G4 c1
  have g3:=MW c1
  have ab:(((yP c1).toNat:Int) !=(c1.toNat:Int))= !(yP c1==c1):=by
   by_cases h:yP c1=c1
   .rw[h];simp
   .have: ¬(yP c1).toNat=c1.toNat:=λw=>h (E2.1 w)
    rw[beq_eq_false_iff_ne.2 h]
    simp
    omega
  revert cN g1 g2 g3 ab
  generalize l8 c1=bl
  generalize wW c1=bd
  generalize aj:(yP c1==c1)=bg
  generalize yP c1=cg
  intro cN g1 g2 g3 ab
  have bad: ∀(b:Bool) (I:St),um c1=false->cw (some (.bool false)) 0 (λr s=>r= .bool M/\s= []) I:=λb I h=>ret _ _ (by rw[<-hM,<-hinv,h];rfl)
  have dU:um c1=true->(s.drop (i+1)).all um=s.all um:=λh=>by rw[<-hinv,h,B7]
  simp[go_sem]
  refine yL [(3,0),(9,0),(16,0)] 0 rfl kR kR ?_
  simp[go_sem,q,aa]
  refine pD g1 ?_
  simp[go_sem]
  refine(A6 bl).elim (λw=> ?_) (λw=> ?_)
  .simp[go_sem,w,q,aa]
   refine pD g3 ?_
   simp[go_sem,q,aa]
   refine zU (λw3=> ?_) (λw3=> ?_)
   .simp[go_sem]
    exact bad true _ (by rw[cN,w];rw[ab]at w3;simpa using w3)
   .simp[go_sem,ei]
    exact zH (i+1) ⟨om,⟨q,dU (by rw[cN,w];rw[ab]at w3;simpa using w3)⟩,aO⟩
  .simp[go_sem,w,q,aa]
   refine pD g2 ?_
   simp[go_sem]
   refine(A6 bd).elim (λw2=> ?_) (λw2=> ?_)
   .simp[go_sem,w2,q,aa]
    refine pD g3 ?_
    simp[go_sem,q,aa]
    refine zU (λw3=> ?_) (λw3=> ?_)
    .simp[go_sem]
     exact bad true _ (by rw[cN,w,w2];rw[ab]at w3;simpa using w3)
    .simp[go_sem,ei]
     exact zH (i+1) ⟨om,⟨q,dU (by rw[cN,w,w2];rw[ab]at w3;simpa using w3)⟩,aO⟩
   .simp[go_sem,w2]
    exact bad true _ (by rw[cN,w,w2];rfl)
 .have q:i=s.length:=by
   have: ¬i<s.length:=sU q
   omega
  subst q
  rw[Ck,Dj]at hinv
  rw[<-hinv,B7]at hM
  simp[go_sem]
  refine pC ZO ?_
  simp[go_sem]
  refine zI (S:=Nat) [0,4,5] (λi=> [.str s,.sl .ro (jf.map λs=> [.str s]),.int .i64 i]) (λ_=> []) (λi=>32 - i) (λi=>i<=32/\(jf.drop i).contains s=jf.contains s) hc hb 0 ⟨A4 _,rfl⟩ ?_ ?_
  .exact aO
  rintro i ⟨hi,hinv⟩
  refine zA ?_
  simp[go_sem,JI]
  refine zU (λq=> ?_) (λq=> ?_)
  .have q:i<32:=by simp at q;omega
   have q2:i<jf.length:=by rw[JI];exact q
   have ei:=zQ q om
   obtain⟨x,hx⟩:=eX (jf[i])
   rw[A5 q2,Dh,hx]at hinv
   simp[go_sem,JI,q,hx]
   try (refine zJ om ?_;simp[go_sem])
   refine zU (λw=> ?_) (λw=> ?_)
   .have w:x=s:=sU w
    simp[go_sem]
    exact ret _ _ (by rw[<-hM,<-hinv,w];simp)
   .have w: ¬x=s:=sU w
    have w2:(s==x)=false:=beq_eq_false_iff_ne.2 λh=>w h.symm
    rw[w2,C6]at hinv
    simp[go_sem,ei]
    exact zH (i+1) ⟨om,⟨q,hinv⟩,aO⟩
  .have q:i=32:=by simp at q;omega
   subst q
   rw[Bn (by rw[JI];exact A7 _)]at hinv
   simp[go_sem]
   exact ret _ _ (by rw[<-hM,<-hinv];rfl)
structure bR where
 kind:Int
 place:Int
 s:ahP
 n:Int
 deriving DecidableEq
@[go_sem] def bR.row (x:bR):List V:= [.int .i64 x.kind,.int .i64 x.place,.str x.s,.int .i64 x.n]
structure RS where
 at_:Nat
 bZ:Int
 err:Int
 place:Int
 deriving DecidableEq
def rB (L:List bR) (s:RS):Ob:= .box [.sl .ro (L.map bR.row),.int .i64 (s.at_:Int),.int .i64 s.bZ,.int .i64 s.err,.int .i64 s.place]
theorem JJ (L:List bR) (s:RS) (n:Nat):bT n (rB L s)=true:=by rfl
def lF:bR:=⟨0,0,[],0⟩
def cC (L:List bR) (s:RS):bR:=L.getD s.at_ lF
def ix (e place:Int) (s:RS):RS:=if s.err=0 then{s with err:=e,place:=place}else s
def zP (s:RS):RS:={s with at_:=s.at_+1}
def dE (s:RS):RS:={s with bZ:=s.bZ - 1}
def dh (L:List bR) (w:ahP) (s:RS):Bool:=s.err==0&&(((cC L s).kind==1||(cC L s).kind==4)&&(cC L s).s==w)
def l9 (L:List bR) (w:ahP) (s:RS):RS:=if dh L w s=true then zP s else s
def yG (L:List bR) (w:ahP) (s:RS):RS:=if dh L w s=true then zP s else ix 13 (cC L s).place s
def Fk (L:List bR) (s:RS):Bool:=s.err==0&&((cC L s).kind==1&&k5 (cC L s).s)
def xD (L:List bR) (s:RS):ahP×RS:=if Fk L s=true then((cC L s).s,zP s)else([],ix 13 (cC L s).place s)
def sM (L:List bR) (s:RS):Bool:=s.err==0&&(cC L s).kind==2
def gN (L:List bR) (s:RS):Int×RS:=if sM L s=true then((cC L s).n,zP s)else(0,ix 13 (cC L s).place s)
def dY (L:List bR) (s:RS):List ahP->ahP
 | []=> []
 |w::ws=>if dh L w s=true then w else dY L s ws
def yS (L:List bR) (s:RS):RS:=if s.err=0/\s.bZ+1>200 then{s with bZ:=s.bZ+1,err:=3,place:=(cC L s).place}else{s with bZ:=s.bZ+1}
structure dj (L:List bR) (s:RS):Prop where
 at_:s.at_<L.length
 bZ:0<=s.bZ/\s.bZ<=100000
structure eO (L:List bR):Prop where
 len:L.length<=1000000
 last: ∀i,L.length=i+1->(L.getD i lF).kind=0
 vP: ∀t∈L,t.s.length<=maxLen
theorem eO.next {L:List bR} (h:eO L) {s:RS} (hs:dj L s) (hk:(cC L s).kind≠0):dj L (zP s):=by
 refine⟨?_,hs.bZ⟩
 have h1:=hs.at_
 rcases Bx (s.at_+1) L.length with h2|h2
 .exact h2
 .exact absurd (h.last s.at_ om) hk
theorem ZP {L:List bR} {w:ahP} {s:RS} (h:dh L w s):(cC L s).kind≠0/\s.err=0:=by
 simp_all[dh];omega
theorem mY (L:List bR) (hL:eO L) (s:RS) (hs:dj L s):bN prog 69 [.ptr 0 0] [rB L s] (λr I=>r= .agg (cC L s).row/\I= [rB L s]):=by
 have h1:=hs.at_
 have hl:=hL.len
 obtain⟨t,ht⟩:=eX (L[s.at_])
 have aa:cC L s=t:=by unfold cC;grind
 rw[aa]
 refine iW 1 func69 ntmps69 results69 λc hc hb=>zM ?_
 simp[go_sem,rB]
 refine mV [(10,4)] 2 sm (by rfl) kR ?_
 simp[go_sem,h1,ht]
 exact yX 1 rfl rfl rfl om (zC rfl) sm
theorem G5 {args:List V} {L:List bR} {s s':RS} {v:V} (hc:bN P f cc [rB L s] (λr I=>r=v/\I= [rB L s'])) (hb:xF P f)
  (aa:bP (cP (cH [0] (τ.length+1))) cc (args++bY)) (hn:gA v) (hk:KV v (rB L s'::τ)):iZ P c (.fn f bY) args (rB L s::τ) KV fx:=by
 refine lV 0 hc hb rfl (by rfl) aa (by grind[JJ]) ?_
 rintro r o2 ⟨rfl,h2⟩
 obtain rfl:o2=rB L s':=by grind
 grind[yk]
theorem sN {n:Nat} {args:List V} {L:List bR} {s s':RS} {v:V} (hc:bN P f cc [rB L s] (λr I=>r=v/\I= [rB L s'])) (hb:xF P f)
  (aa:bP (cP (cH [0] (τ.length+1))) cc (args++bY)) (hn:gA v) (hk:KV v (rB L s'::τ)):pf P c ⟨1,n,[],none⟩ 3 (.fn f bY) args (rB L s::τ) KV fx:=
 YB hc hb rfl (by rfl) (by rfl) aa hn hk
theorem wK {N:Nat} {l l':List V} (h:bP (cP (cH [0] N)) l l'):bP (cP (cH [0] N)) (.ptr 0 0::l) (.ptr 0 0::l'):=⟨.inl rfl,h⟩
theorem fu {N:Nat}:bP (cP (cH [0] N)) [.ptr 0 0] [.ptr 0 0]:=wK trivial
theorem pR {args:List V} {L:List bR} {s s':RS} {v:V} (hc:bN P f cc [rB L s] (λr I=>r=v/\I= [rB L s'])) (hk:KV v (rB L s'::τ))
  (aa:bP (cP (cH [0] (τ.length+1))) cc (args++bY):=by first|exact fu|exact wK (yF rfl)|exact wK ⟨zK,yF rfl⟩|exact wK ⟨zC rfl,zK,yF rfl⟩|exact wK ⟨zK,zK,yF rfl⟩)
  (hb:xF P f=true:=by kernel_rfl) (hn:gA v=true:=by rfl):iZ P c (.fn f bY) args (rB L s::τ) KV fx:=G5 hc hb aa hn hk
theorem xL {R:V->St->Prop} {L:List bR} {s:RS} {v r:V} (hr:cP (cH (List.range 1) (rB L s::τ).length) r v) (hR:R r [rB L s]):cw (some v) 1 R (rB L s::τ):=
 yX 1 rfl rfl (by rfl) om hr hR
theorem jg (L:List bR) (hL:eO L) (s:RS) (hs:dj L s) (w:ahP):bN prog 68 [.ptr 0 0,.str w] [rB L s] (λr I=>r= .bool (dh L w s)/\I= [rB L s]):=by
 have ht:=mY L hL s hs
 have aa:(cC L s).s.length<=maxLen:=by
  unfold cC
  rw[Ae,A0 hs.at_]
  exact hL.vP _ sm
 generalize hM:dh L w s=M
 unfold dh at hM
 obtain⟨t,ab⟩:=eX (cC L s)
 rw[ab]at hM ht aa
 have ret: ∀(r:Bool) (τ:St),r=M->cw (some (.bool r)) 1 (λr I=>r= .bool M/\I= [rB L s]) (rB L s::τ):=λr τ h=>by subst h;exact xL (zC rfl) sm
 refine iW 1 func68 ntmps68 results68 λc hc hb=>zM ?_
 simp[go_sem]
 refine pR ht ?_
 simp[go_sem,rB]
 repeat' (first|(refine xE (λq=> ?_) (λq=> ?_)<;>simp[go_sem,q])|(refine zU (λq=> ?_) (λq=> ?_)<;>simp[go_sem,q]))
 all_goals exact ret _ _ (by rw[<-hM];simp_all)
theorem CO (L:List bR) (hL:eO L) (s:RS) (hs:dj L s) (w:ahP):bN prog 67 [.ptr 0 0,.str w] [rB L s] (λr I=>r= .bool (dh L w s)/\I= [rB L (l9 L w s)]):=by
 have hi:=jg L hL s hs w
 have h1:=hs.at_
 have hl:=hL.len
 have ei:IntKind.i64.wrap ((s.at_:Int)+1)=((s.at_+1:Nat):Int):=by grind[bX]
 unfold l9
 generalize dh L w s=b at hi
 refine iW 1 func67 ntmps67 results67 λc hc hb=>zM ?_
 simp[go_sem]
 refine pR hi ?_
 simp[go_sem,rB]
 refine(A6 b).elim (λq=> ?_) (λq=> ?_)
 all_goals subst q
 all_goals simp[go_sem,ei]
 .exact xL (s:=zP s) (zC rfl) (by trivial)
 .exact xL (s:=s) (zC rfl) (by trivial)
theorem zg (L:List bR) (s:RS) (e p:Int):bN prog 72 [.ptr 0 0,.int .i64 e,.int .i64 p] [rB L s] (λr I=>r= .cy []/\I= [rB L (ix e p s)]):=by
 unfold ix
 refine iW 1 func72 ntmps72 results72 λc hc hb=>zM ?_
 simp[go_sem,rB]
 refine zU (λq=> ?_) (λq=> ?_)
 .have q:s.err=0:=by grind
  simp[go_sem,q]
  exact xL (s:={s with err:=e,place:=p}) (zC rfl) (by trivial)
 .have q: ¬s.err=0:=by grind
  simp[go_sem,q]
  exact xL (s:=s) (zC rfl) (by trivial)
theorem k6 (L:List bR) (hL:eO L) (s:RS) (hs:dj L s) (w:ahP):bN prog 70 [.ptr 0 0,.str w] [rB L s] (λr I=>r= .cy []/\I= [rB L (yG L w s)]):=by
 have he:=CO L hL s hs w
 have ht:=mY L hL s hs
 have hf:=zg L s 13 (cC L s).place
 unfold l9 at he
 unfold yG
 generalize dh L w s=b at he
 refine iW 1 func70 ntmps70 results70 λc hc hb=>zM ?_
 simp[go_sem]
 refine pR he ?_
 simp[go_sem]
 refine(A6 b).elim (λq=> ?_) (λq=> ?_)
 all_goals subst q
 all_goals simp[go_sem]
 .exact xL (zC rfl) sm
 .refine pR ht ?_
  simp[go_sem]
  refine pR hf ?_
  simp[go_sem]
  exact xL (zC rfl) sm
theorem CP (L:List bR) (hL:eO L) (s:RS) (hs:dj L s):bN prog 121 [.ptr 0 0] [rB L s] (λr I=>r= .str (xD L s).1/\I= [rB L (xD L s).2]):=by
 have ht:=mY L hL s hs
 have hf:=zg L s 13 (cC L s).place
 have ad:(cC L s).s.length<=maxLen:=by
  unfold cC
  rw[Ae,A0 hs.at_]
  exact hL.vP _ sm
 have hw:=MX (cC L s).s ad
 have h1:=hs.at_
 have hl:=hL.len
 have ei:IntKind.i64.wrap ((s.at_:Int)+1)=((s.at_+1:Nat):Int):=by grind[bX]
 have ab:Fk L s=false->xD L s=([],ix 13 (cC L s).place s):=λh=>by unfold xD;grind
 have aa:Fk L s=true->xD L s=((cC L s).s,zP s):=λh=>by unfold xD;grind
 generalize xD L s=M at ab aa⊢
 unfold Fk at ab aa
 obtain⟨t,ae⟩:=eX (cC L s)
 rw[ae]at ht hf hw ab aa
 obtain⟨b,af⟩:=eX (k5 t.s)
 rw[af]at hw ab aa
 have key:((s.err==0&&(t.kind==1&&b))=false/\(s.err !=0)=true)\/((s.err==0&&(t.kind==1&&b))=false/\(s.err !=0)=false/\(t.kind !=1)=true)\/((s.err==0&&(t.kind==1&&b))=b/\(s.err !=0)=false/\(t.kind !=1)=false):=by
  grind
 have no: ∀τ:St,M=([],ix 13 t.place s)->cw (some (.str [])) 1 (λr I=>r= .str M.1/\I= [rB L M.2]) (rB L (ix 13 t.place s)::τ):=λτ h=>by subst h;exact xL (zC rfl) sm
 refine iW 1 func121 ntmps121 results121 λc hc hb=>zM ?_
 simp[go_sem]
 refine pR ht ?_
 simp[go_sem,rB]
 refine key.elim (λ⟨q1,q2⟩=> ?_) λkey=>key.elim (λ⟨q1,q2,q3⟩=> ?_) λ⟨q1,q2,q3⟩=> ?_
 .simp[go_sem,q2]
  refine pR hf ?_
  simp[go_sem]
  exact no _ (ab q1)
 .simp[go_sem,q2,q3]
  refine pR hf ?_
  simp[go_sem]
  exact no _ (ab q1)
 .simp[go_sem,q2,q3]
  refine pC hw ?_
  refine(A6 b).elim (λq=> ?_) (λq=> ?_)
  .have hM:=aa (q1.trans q)
   subst q
   subst hM
   simp[go_sem,ei]
   exact xL (s:=zP s) (zC rfl) (by trivial)
  .have hM:=ab (q1.trans q)
   subst q
   simp[go_sem]
   refine pR hf ?_
   simp[go_sem]
   exact no _ hM
theorem Fl (L:List bR) (hL:eO L) (s:RS) (hs:dj L s):bN prog 71 [.ptr 0 0] [rB L s] (λr I=>r= .int .i64 (gN L s).1/\I= [rB L (gN L s).2]):=by
 have ht:=mY L hL s hs
 have hf:=zg L s 13 (cC L s).place
 have h1:=hs.at_
 have hl:=hL.len
 have ei:IntKind.i64.wrap ((s.at_:Int)+1)=((s.at_+1:Nat):Int):=by grind[bX]
 have ab:sM L s=false->gN L s=(0,ix 13 (cC L s).place s):=λh=>by unfold gN;grind
 have aa:sM L s=true->gN L s=((cC L s).n,zP s):=λh=>by unfold gN;grind
 generalize gN L s=M at ab aa⊢
 unfold sM at ab aa
 obtain⟨t,ad⟩:=eX (cC L s)
 rw[ad]at ht hf ab aa
 have key:((s.err==0&&t.kind==2)=false/\(s.err !=0)=true)\/((s.err==0&&t.kind==2)=false/\(s.err !=0)=false/\(t.kind !=2)=true)\/((s.err==0&&t.kind==2)=true/\(s.err !=0)=false/\(t.kind !=2)=false):=by
  grind
 have no: ∀τ:St,M=(0,ix 13 t.place s)->cw (some (.int .i64 0)) 1 (λr I=>r= .int .i64 M.1/\I= [rB L M.2]) (rB L (ix 13 t.place s)::τ):=λτ h=>by subst h;exact xL (zC rfl) sm
 refine iW 1 func71 ntmps71 results71 λc hc hb=>zM ?_
 simp[go_sem]
 refine pR ht ?_
 simp[go_sem,rB]
 refine key.elim (λ⟨q1,q2⟩=> ?_) λkey=>key.elim (λ⟨q1,q2,q3⟩=> ?_) λ⟨q1,q2,q3⟩=> ?_
 .simp[go_sem,q2]
  refine pR hf ?_
  simp[go_sem]
  exact no _ (ab q1)
 .simp[go_sem,q2,q3]
  refine pR hf ?_
  simp[go_sem]
  exact no _ (ab q1)
 .have hM:=aa q1
  subst hM
  simp[go_sem,q2,q3,ei]
  exact xL (s:=zP s) (zC rfl) (by trivial)
theorem zh (L:List bR) (hL:eO L) (s:RS) (hs:dj L s) (ws:List ahP) (hw:ws.length<=1000):bN prog 64 [.ptr 0 0,.sl .ro (ws.map λw=> [V.str w])] [rB L s] (λr I=>r= .str (dY L s ws)/\I= [rB L s]):=by
 generalize hM:dY L s ws=M
 have ret: ∀(r:ahP) (τ:St),r=M->cw (some (.str r)) 1 (λr I=>r= .str M/\I= [rB L s]) (rB L s::τ):=λr τ h=>by subst h;exact xL (zC rfl) sm
 refine iV 1 func64 ntmps64 results64 λc hc hb=> ?_
 refine zA ?_
 simp[go_sem]
 refine zI (S:=Nat) [0,1,5] (λi=> [.ptr 0 0,.sl .ro (ws.map λw=> [V.str w]),.int .i64 i]) (λ_=> [rB L s]) (λi=>ws.length - i) (λi=>i<=ws.length/\dY L s (ws.drop i)=M) hc hb 0 (by grind) ?_ ?_
 .exact cd 1 (by rfl) rfl (by rfl) om (zD (by rfl) rfl)
 rintro i ⟨hi,hinv⟩
 by_cases q:i<ws.length
 rotate_left
 .rw[A9 om]at hinv
  refine zA ?_
  simp[go_sem,q]
  exact ret _ _ hinv
 have ei:=zQ q om
 obtain⟨w,hx⟩:=eX (ws[i])
 rw[A5 q,hx,dY]at hinv
 have aa:=jg L hL s hs w
 obtain⟨b,ab⟩:=eX (dh L w s)
 rw[ab]at aa hinv
 refine zA ?_
 simp[go_sem,q,hx]
 refine pR aa ?_
 simp[go_sem]
 refine zU (λw1=> ?_) (λw1=> ?_)
 .rw[ahg w1]at hinv
  simp[go_sem,q,hx]
  exact ret _ _ hinv
 .rw[ahf (by grind)]at hinv
  simp[go_sem,ei]
  exact zH (i+1) ⟨om,(by grind),cd 1 rfl rfl (by rfl) om (zD (by rfl) rfl)⟩
theorem CQ (L:List bR) (hL:eO L) (s:RS) (hs:dj L s) (ad:s.bZ<=1000):bN prog 290 [.ptr 0 0] [rB L s] (λr I=>r= .bool ((yS L s).err==0)/\I= [rB L (yS L s)]):=by
 have ho:=hs.bZ
 have ht:=mY L hL {s with bZ:=s.bZ+1} ⟨hs.at_,by grind⟩
 have e0:cC L {s with bZ:=s.bZ+1}=cC L s:=rfl
 rw[e0]at ht
 have hf:=zg L {s with bZ:=s.bZ+1} 3 (cC L s).place
 have ei:IntKind.i64.wrap (s.bZ+1)=s.bZ+1:=by grind[bX]
 refine iW 1 func290 ntmps290 results290 λc hc hb=>zM ?_
 simp[go_sem,rB,ei]
 by_cases q1:s.err=0
 .have aa:(s.err==0)=true:=by grind
  by_cases q2:s.bZ+1>200
  .have ab:decide (200<s.bZ+1)=true:=(by grind)
   have hS:yS L s=ix 3 (cC L s).place {s with bZ:=s.bZ+1}:=by simp_all[yS,ix]
   rw[hS]
   simp[go_sem,aa,ab]
   refine pR ht ?_
   simp[go_sem]
   refine pR hf ?_
   unfold ix
   rw[ahg q1]
   simp[go_sem,rB]
   exact xL (L:=L) (s:={s with bZ:=s.bZ+1,err:=3,place:=(cC L s).place}) (zC rfl) (by trivial)
  .have ab:decide (200<s.bZ+1)=false:=(by grind)
   have hS:yS L s={s with bZ:=s.bZ+1}:=by simp_all[yS]
   rw[hS]
   simp[go_sem,aa,ab]
   exact xL (L:=L) (s:={s with bZ:=s.bZ+1}) (zC rfl) (by trivial)
 .have aa:(s.err==0)=false:=by grind
  have hS:yS L s={s with bZ:=s.bZ+1}:=by simp_all[yS]
  rw[hS]
  simp[go_sem,aa]
  exact xL (L:=L) (s:={s with bZ:=s.bZ+1}) (zC rfl) (by trivial)
theorem Ri:Pure prog 292 [] (.sl .ro [[.sl .ro [[.str [79,82]]]],[.sl .ro [[.str [65,78,68]]]]]):=by
 refine iW 0 func292 ntmps292 results292 λc hc hb=>zM ?_
 simp[go_sem]
 exact zX zK sm
mutual
def wZ:bJ->Nat
 | .mk _ _ _ args=>wJ args+1
def wJ:List bJ->Nat
 | []=>0
 |e::l=>max (wZ e) (wJ l)
end
variable {e:bJ}{w:ahP}{o:Int}{τ:St}{a:List bJ}
theorem uo (e:bJ):wZ e=wJ e.args+1:=by cases e;rfl
theorem CR: ∀(l:List bJ) (e:bJ),e∈l->wZ e<=wJ l
 | [],_,h=>by grind
 |x::l,e,h=>by
  rw[wJ]
  rcases Af.1 h with rfl|h
  .omega
  .have:=CR l e h;omega
inductive fp:bJ->Prop
 |mk (e:bJ) (h:e.args.length<=1000000) (ha: ∀x∈e.args,fp x):fp e
theorem fp.len (h:fp e):e.args.length<=1000000:=by cases h;omega
theorem fp.sub (h:fp e): ∀x∈e.args,fp x:=by cases h;omega
def maxD (l:List bJ) (d:Nat):Nat:=l.foldl (λd e=>max d (wZ e)) d
theorem Rj: ∀(l:List bJ) (d:Nat),maxD l d=max d (wJ l)
 | [],d=>by grind[maxD,wJ]
 |e::l,d=>by
  have:=Rj l (max d (wZ e))
  unfold maxD at this⊢
  rw[Bt,this,wJ]
  omega
theorem Rk: ∀(n:Nat) (e:bJ),wZ e<=n->n<=1000000->fp e->Pure prog 318 [.agg e.row] (.int .i64 (wZ e:Int))
 |0,e,h,_,_=>by grind[uo]
 |n+1,e,h,hn,hw=>by
  have ih:=Rk n
  have ae:=uo e
  obtain⟨args,aa⟩:=eX e.args
  have hlen:=hw.len
  have ab:=hw.sub
  rw[aa]at ae hlen ab
  obtain⟨D,hD⟩:=eX (wZ e)
  rw[hD]at ae h⊢
  refine iV 0 func318 ntmps318 results318 λc hc hb=> ?_
  refine zA ?_
  simp[go_sem]
  refine zI (S:=Nat×Nat) [1,3,4] (λu=> [.ptr 0 0,.int .i64 (u.2:Int),.int .i64 (u.1:Int)]) (λ_=> [.box e.row]) (λu=>args.length - u.1) (λu=>u.1<=args.length/\maxD (args.drop u.1) u.2=wJ args/\u.2<=n) hc hb (0,0) (by simp[Rj]) ?_ ?_
  .exact cd 1 sg rfl (by simp[bT,cQ,cL,bJ.bS]) om (zD (by rfl) rfl)
  rintro⟨i,d⟩ ⟨hi,hinv,aj⟩
  simp only at hi hinv aj
  by_cases q:i<args.length
  rotate_left
  .rw[A9 om]at hinv
   have al:d=wJ args:=hinv
   have ei:IntKind.i64.wrap ((d:Int)+1)=(D:Int):=by grind[bX]
   refine zA ?_
   simp[go_sem,q,aa,ei]
   exact zX (zC rfl) sm
  have ei:=zQ q om
  obtain⟨x,hx⟩:=eX (args[i])
  have af:x∈args:=(by grind)
  have ak:=CR args x af
  rw[A5 q,hx]at hinv
  have ah:=ih x om om (ab x af)
  have ad:maxD (args.drop (i+1)) (max d (wZ x))=wJ args:=hinv
  obtain⟨dx,ai⟩:=eX (wZ x)
  rw[ai]at ah ad ak
  refine zA ?_
  simp[go_sem,q,aa,hx]
  refine zL ah cB (zO sg (by rw[bJ.bS];rfl)) rfl ?_
  simp[go_sem,ei]
  refine zH (i+1,max d dx) ⟨om,(by grind), ?_⟩
  refine cd 1 (by simp[go_sem,aa]) rfl (by simp[bT,cQ,cL,bJ.bS]) om (zD ?_ rfl)
  simp[go_sem]
  omega
abbrev PR:=bJ×RS
def cT:bJ:= .mk 0 [] ⟨0,0,[]⟩ []
def p5 (w:ahP) (args:List bJ):bJ:= .mk 3 w ⟨0,0,[]⟩ args
def jV (v:bK):bJ:= .mk 1 [] v []
def CS (w:ahP):bJ:= .mk 2 w ⟨0,0,[]⟩ []
def mZ (place:Int) (w:ahP) (args:List bJ) (s:RS):RS:=if s.err=0/\16<wZ (p5 w args)then ix 3 place s else s
def gU (place:Int) (w:ahP) (args:List bJ) (s:RS):PR:=(p5 w args,mZ place w args s)
def jJ (L:List bR) (k:RS->PR) (s:RS):PR:=if(yS L s).err=0 then((k (yS L s)).1,dE (k (yS L s)).2)else(cT,dE (yS L s))
def eQ (L:List bR) (ws:List ahP) (sub:RS->PR):Nat->PR->PR
 |0,x=>x
 |n+1,x=>if dY L x.2 ws= []then x else eQ L ws sub n (gU (cC L x.2).place (dY L x.2 ws) [x.1,(sub (zP x.2)).1] (sub (zP x.2)).2)
def p6:ahP:= [79,82]
def jz:ahP:= [65,78,68]
def jW:ahP:= [78,79,84]
def JK:ahP:= [73,83]
def oz:ahP:= [78,85,76,76]
def JL:ahP:= [73,83,78,85,76,76]
def JM:ahP:= [78,79,84,78,85,76,76]
def fL:List ahP:= [[61],[60,62],[60],[60,61],[62],[62,61]]
def oA:List ahP:= [[43],[45]]
def oB:List ahP:= [[42],[47],[37]]
def na (L:List bR) (rn rc:RS->PR) (s:RS):PR:=if dh L jW s=true then gU (cC L s).place jW [(rn (zP s)).1] (rn (zP s)).2 else rc s
def nb (L:List bR) (sub:RS->PR) (x:PR):PR:=
 if dh L JK x.2=true then
  if dh L jW (zP x.2)=true then gU (cC L x.2).place JM [x.1] (yG L oz (zP (zP x.2)))else gU (cC L x.2).place JL [x.1] (yG L oz (zP x.2))
 else if dY L x.2 fL= []then x else gU (cC L x.2).place (dY L x.2 fL) [x.1,(sub (zP x.2)).1] (sub (zP x.2)).2
def sO (L:List bR) (un ex:RS->PR) (s:RS):PR:=
 if dh L [45] s=true then gU (cC L s).place [78,69,71] [(un (zP s)).1] (un (zP s)).2
 else if dh L [40] s=true then((ex (zP s)).1,yG L [41] (ex (zP s)).2)
 else if dh L [84,82,85,69] s=true then(jV ⟨1,1,[]⟩,zP s)
 else if dh L [70,65,76,83,69] s=true then(jV ⟨1,0,[]⟩,zP s)
 else if dh L oz s=true then(jV ⟨0,0,[]⟩,zP s)
 else if(cC L s).kind=2 then(jV ⟨2,(cC L s).n,[]⟩,zP s)
 else if(cC L s).kind=3 then(jV ⟨3,0,(cC L s).s⟩,zP s)
 else(CS (xD L s).1,(xD L s).2)
def kh (L:List bR) (rec:Nat->RS->PR):Nat->RS->PR
 |0,s=>eQ L [p6] (rec 1) L.length (rec 1 s)
 |1,s=>eQ L [jz] (rec 2) L.length (rec 2 s)
 |2,s=>na L (rec 2) (rec 3) s
 |3,s=>nb L (rec 4) (rec 4 s)
 |4,s=>eQ L oA (rec 5) L.length (rec 5 s)
 |5,s=>eQ L oB (rec 6) L.length (rec 6 s)
 |_,s=>sO L (rec 6) (rec 0) s
def pF (L:List bR):Nat->Nat->RS->PR
 |0,_,s=>(cT,s)
 |f+1,w,s=>jJ L (kh L (pF L f) w) s
structure PI (L:List bR) (s:RS) (x:PR):Prop where
 cz:dj L x.2
 bZ:x.2.bZ=s.bZ
 up:s.at_<=x.2.at_
 err:x.2.err=0->s.err=0/\wZ x.1<=16
 wide:fp x.1
theorem CT {e p:Int} {s:RS} (he:e≠0):(ix e p s).err≠0:=by unfold ix;split<;>simp_all
theorem G6 (e p:Int) (s:RS):(ix e p s).at_=s.at_:=by unfold ix;split<;>rfl
theorem G7 (e p:Int) (s:RS):(ix e p s).bZ=s.bZ:=by unfold ix;split<;>rfl
theorem MY {L:List bR} {s:RS} (h:dj L s) (e p:Int):dj L (ix e p s):=⟨by rw[G6];exact h.at_,by rw[G7];exact h.bZ⟩
theorem CU (p:Int) (w:ahP) (a:List bJ) (s:RS):(mZ p w a s).at_=s.at_:=by unfold mZ;split;exact G6 _ _ _;rfl
theorem JN (p:Int) (w:ahP) (a:List bJ) (s:RS):(mZ p w a s).bZ=s.bZ:=by unfold mZ;split;exact G7 _ _ _;rfl
theorem MZ {p:Int} {s:RS} (h:(mZ p w a s).err=0):s.err=0/\wZ (p5 w a)<=16:=by
 unfold mZ at h
 split at h
 .exact absurd h (CT dC)
 .rename_i hc
  refine⟨h, ?_⟩
  by_cases q:16<wZ (p5 w a)
  .exact absurd ⟨h,q⟩ hc
  .omega
theorem ZQ {L:List bR} {s:RS} (h:dj L s) (p:Int) (w:ahP) (a:List bJ):dj L (mZ p w a s):=⟨by rw[CU];exact h.at_,by rw[JN];exact h.bZ⟩
theorem Rl (p:Int) (w:ahP) (a:List bJ) (s:RS):mZ p w a (dE s)=dE (mZ p w a s):=by
 unfold mZ ix dE
 by_cases q:s.err=0/\16<wZ (p5 w a)
 .rw[ahg q,ahg q,ahg q.1,ahg q.1]
 .rw[ahf q,ahf q]
theorem ZR (w:ahP) (a:List bJ):wZ (p5 w a)=wJ a+1:=uo _
theorem Rm (h:a.length<=1000000) (ha: ∀x∈a,fp x):fp (p5 w a):= .mk _ h ha
theorem Rn (h:e.args= []):fp e:= .mk _ (by simp[h]) (by simp[h])
def RR (L:List bR) (x:PR):V->St->Prop:=λr I=>r= .agg x.1.row/\I= [rB L x.2]
theorem wI {L:List bR} {s:RS} {x:PR} (h:x=(e,s)):cw (some (.agg [.int .i64 e.kind,.str e.s,.int .i64 e.v.kind,.int .i64 e.v.n,.str e.v.s,.sl .ro (e.args.map bJ.row)])) 1 (RR L x) (rB L s::τ):=by
 subst h
 exact xL (zC rfl) ⟨by rw[bJ.bS],rfl⟩
theorem Ro (e:bJ):gA (.agg e.row)=true:=by rw[bJ.bS];rfl
theorem jK {P:Program} {c:Ctx} {f:FuncId} {bY args cc:List V} {L:List bR} {s:RS} {x:PR} {KV:V->St->Prop} (hc:bN P f cc [rB L s] (RR L x)) (hb:xF P f)
  (aa:bP (cP (cH [0] (τ.length+1))) cc (args++bY)) (hk:KV (.agg x.1.row) (rB L x.2::τ)):iZ P c (.fn f bY) args (rB L s::τ) KV fx:=
 G5 hc hb aa (Ro _) hk
theorem rC {P:Program} {c:Ctx} {n:Nat} {f:FuncId} {bY args cc:List V} {L:List bR} {s:RS} {x:PR} {KV:V->St->Prop} (hc:bN P f cc [rB L s] (RR L x)) (hb:xF P f)
  (aa:bP (cP (cH [0] (τ.length+1))) cc (args++bY)) (hk:KV (.agg x.1.row) (rB L x.2::τ)):pf P c ⟨1,n,[],none⟩ 3 (.fn f bY) args (rB L s::τ) KV fx:=
 sN hc hb aa (Ro _) hk
theorem ma (L:List bR) (s:RS) (p:Int) (w:ahP) (a:List bJ) (hl:a.length<=1000) (hw: ∀x∈a,fp x) (hd:s.err=0->wJ a<=1000):
  bN prog 293 [.ptr 0 0,.int .i64 p,.str w,.sl .ro (a.map bJ.row)] [rB L s] (RR L (gU p w a s)):=by
 obtain⟨D,hD⟩:=eX (wZ (p5 w a))
 have ad:=ZR w a
 rw[hD]at ad
 have hf:=zg L s 3 p
 have hS:gU p w a s=(p5 w a,if s.err=0/\16<D then ix 3 p s else s):=by unfold gU mZ;rw[hD]
 generalize gU p w a s=M at hS⊢
 refine iW 1 func293 ntmps293 results293 λc hc hb=>zM ?_
 by_cases q1:s.err=0
 .have aa:(s.err==0)=true:=sU q1
  have ae:=Rk 1001 (p5 w a) (by rw[hD,ad];have:=hd q1;omega) om (Rm om hw)
  rw[hD]at ae
  simp[go_sem,rB,aa]
  refine zL ae cB (zO (by rw[bJ.bS];rfl) rfl) rfl ?_
  simp[go_sem]
  by_cases q2:16<D
  .have ab:decide ((16:Int)<(D:Int))=true:=ahi om
   rw[ahg ⟨q1,q2⟩]at hS
   simp[go_sem,ab]
   refine pR hf ?_
   simp[go_sem]
   exact wI hS
  .have ab:decide ((16:Int)<(D:Int))=false:=ahh om
   rw[ahf (λh=>q2 h.2)]at hS
   simp[go_sem,ab]
   exact wI hS
 .have aa:(s.err==0)=false:=sU q1
  rw[ahf (λh=>q1 h.1)]at hS
  simp[go_sem,rB,aa]
  exact wI hS
variable {L:List bR}
theorem nJ (s:RS):(zP s).at_=s.at_+1:=rfl
theorem CV {s:RS}: ∀{ws:List ahP},dY L s ws≠ []->dh L (dY L s ws) s=true
 | [],h=>absurd rfl h
 |w::ws,h=>by
  unfold dY at h⊢
  split
  .assumption
  .rename_i hn
   rw[ahf hn]at h
   exact CV h
theorem dj.next (hL:eO L) {s:RS} (h:dj L s) (hi:dh L w s):dj L (zP s):=hL.next h (ZP hi).1
theorem uq (hL:eO L) {s:RS} (h:dj L s):dj L (yG L w s):=by
 unfold yG
 split
 .exact h.next hL ‹_›
 .exact MY h _ _
theorem CW (w:ahP) (s:RS):s.at_<=(yG L w s).at_:=by
 unfold yG
 split
 .simp[zP]
 .rw[G6];exact A7 _
theorem CX (w:ahP) (s:RS):(yG L w s).bZ=s.bZ:=by
 unfold yG
 split
 .rfl
 .exact G7 _ _ _
theorem vQ {s:RS} (h:(yG L w s).err=0):s.err=0/\dh L w s=true:=by
 unfold yG at h
 split at h
 .exact⟨h,‹_›⟩
 .exact absurd h (CT dC)
theorem Rp (hL:eO L) {s:RS} (h:dj L s):dj L (xD L s).2:=by
 unfold xD
 split
 .rename_i hb
  unfold Fk at hb
  simp only[Ab,ahm]at hb
  exact hL.next h (by rw[hb.2.1];decide)
 .exact MY h _ _
theorem Rq (s:RS):s.at_<=(xD L s).2.at_:=by
 unfold xD
 split
 .simp[zP]
 .simp only[G6];exact A7 _
theorem Rr (s:RS):(xD L s).2.bZ=s.bZ:=by
 unfold xD
 split
 .rfl
 .exact G7 _ _ _
theorem M0 {s:RS} (h:(xD L s).2.err=0):s.err=0/\Fk L s=true:=by
 unfold xD at h
 split at h
 .exact⟨h,‹_›⟩
 .exact absurd h (CT dC)
theorem ZS (h:e.args= []):wZ e=1:=by rw[uo,h];rfl
theorem ur {s0 s:RS} (p:Int) (w:ahP) (h1:dj L s) (h2:s.bZ=s0.bZ) (h3:s0.at_<=s.at_) (h4:s.err=0->s0.err=0) (h5:a.length<=1000000) (h6: ∀x∈a,fp x):PI L s0 (gU p w a s):=
 ⟨ZQ h1 _ _ _,by show(mZ p w a s).bZ=_;rw[JN,h2],by show _<=(mZ p w a s).at_;rw[CU];exact h3,λh=>⟨h4 (MZ h).1,(MZ h).2⟩,Rm h5 h6⟩
theorem Fm (hL:eO L) {o:Int} {sub:RS->PR} (aa: ∀s,dj L s->s.bZ=o->PI L s (sub s)) (ws:List ahP) {s0:RS}: ∀(n:Nat) (x:PR),PI L s0 x->s0.bZ=o->PI L s0 (eQ L ws sub n x)
 |0,x,h,_=>h
 |n+1,x,h,ho=>by
  unfold eQ
  split
  .exact h
  rename_i ab
  have hi:=CV ab
  have hx:=h.bZ
  have hy:=aa (zP x.2) (h.cz.next hL hi) (by show x.2.bZ=o;rw[hx,ho])
  refine Fm hL aa ws n _ (ur _ _ hy.cz ?_ ?_ (λhe=>(h.err ?_).1) sm ?_) ho
  .rw[hy.bZ];exact hx
  .have h1:=hy.up;have h2:=h.up;rw[nJ]at h1;omega
  .exact(hy.err he).1
  .intro e he
   simp only[Af,Be,aht]at he
   rcases he with rfl|rfl
   .exact h.wide
   .exact hy.wide
theorem ZT (hL:eO L) {rn rc:RS->PR} (h1: ∀s,dj L s->s.bZ=o->PI L s (rn s)) (h2: ∀s,dj L s->s.bZ=o->PI L s (rc s)) (s:RS) (hs:dj L s) (ho:s.bZ=o):PI L s (na L rn rc s):=by
 unfold na
 split
 .rename_i hi
  have hy:=h1 (zP s) (hs.next hL hi) ho
  refine ur _ _ hy.cz hy.bZ ?_ (λhe=>(hy.err he).1) sm (λe he=> ?_)
  .have h1:=hy.up;rw[nJ]at h1;omega
  .simp only[Af,Be,aht]at he;subst he;exact hy.wide
 .exact h2 s hs ho
theorem ZU (hL:eO L) {sub:RS->PR} (aa: ∀s,dj L s->s.bZ=o->PI L s (sub s)) (s:RS) (ho:s.bZ=o) (x:PR) (h:PI L s x):PI L s (nb L sub x):=by
 have hx:=h.bZ
 have hu:=h.up
 have w1: ∀e∈ [x.1],fp e:=λe he=>by simp only[Af,Be,aht]at he;subst he;exact h.wide
 unfold nb
 split
 .rename_i hi
  have hn:=h.cz.next hL hi
  split
  .rename_i ab
   have ad:=hn.next hL ab
   refine ur _ _ (uq hL ad) ?_ ?_ (λhe=>(h.err ?_).1) sm w1
   .rw[CX];exact hx
   .have:=CW (L:=L) oz (zP (zP x.2));simp only[zP]at this⊢;omega
   .exact(vQ he).1
  .refine ur _ _ (uq hL hn) ?_ ?_ (λhe=>(h.err ?_).1) sm w1
   .rw[CX];exact hx
   .have:=CW (L:=L) oz (zP x.2);simp only[zP]at this⊢;omega
   .exact(vQ he).1
 .split
  .exact h
  rename_i ae
  have hi:=CV ae
  have hy:=aa (zP x.2) (h.cz.next hL hi) (by show x.2.bZ=o;rw[hx,ho])
  refine ur _ _ hy.cz ?_ ?_ (λhe=>(h.err ?_).1) sm ?_
  .rw[hy.bZ];exact hx
  .have h1:=hy.up;rw[nJ]at h1;omega
  .exact(hy.err he).1
  .intro e he
   simp only[Af,Be,aht]at he
   rcases he with rfl|rfl
   .exact h.wide
   .exact hy.wide
theorem CY {s:RS} (ha:e.args= []) {s2:RS} (h1:dj L s2) (h2:s2.bZ=s.bZ) (h3:s.at_<=s2.at_) (h4:s2.err=0->s.err=0):PI L s (e,s2):=
 ⟨h1,h2,h3,λh=>⟨h4 h,by simp only;rw[ZS ha];decide⟩,Rn ha⟩
theorem Rs (hL:eO L) {un ex:RS->PR} (h1: ∀s,dj L s->s.bZ=o->PI L s (un s)) (h2: ∀s,dj L s->s.bZ=o->PI L s (ex s)) (s:RS) (hs:dj L s) (ho:s.bZ=o):PI L s (sO L un ex s):=by
 unfold sO
 split
 .rename_i hi
  have hy:=h1 (zP s) (hs.next hL hi) ho
  refine ur _ _ hy.cz hy.bZ ?_ (λhe=>(hy.err he).1) sm (λe he=> ?_)
  .have h1:=hy.up;rw[nJ]at h1;omega
  .simp only[Af,Be,aht]at he;subst he;exact hy.wide
 split
 .rename_i hi
  have hy:=h2 (zP s) (hs.next hL hi) ho
  refine⟨uq hL hy.cz, ?_, ?_,λhe=> ?_,hy.wide⟩
  .rw[CX];exact hy.bZ
  .have h1:=hy.up;have h2:=CW (L:=L) [41] (ex (zP s)).2;rw[nJ]at h1;show _<=(yG L [41] (ex (zP s)).2).at_;omega
  .have:=hy.err (vQ he).1;exact this
 split
 .exact CY rfl (hs.next hL ‹_›) rfl (by simp[zP]) id
 split
 .exact CY rfl (hs.next hL ‹_›) rfl (by simp[zP]) id
 split
 .exact CY rfl (hs.next hL ‹_›) rfl (by simp[zP]) id
 split
 .exact CY rfl (hL.next hs om) rfl (by simp[zP]) id
 split
 .exact CY rfl (hL.next hs om) rfl (by simp[zP]) id
 .exact CY rfl (Rp hL hs) (Rr s) (Rq s) (λh=>(M0 h).1)
theorem ZV (hL:eO L) {rec:Nat->RS->PR} (h: ∀w s,dj L s->s.bZ=o->PI L s (rec w s)): ∀(w:Nat) (s:RS),dj L s->s.bZ=o->PI L s (kh L rec w s)
 |0,s,hs,ho=>Fm hL (h 1) _ _ _ (h 1 s hs ho) ho
 |1,s,hs,ho=>Fm hL (h 2) _ _ _ (h 2 s hs ho) ho
 |2,s,hs,ho=>ZT hL (h 2) (h 3) s hs ho
 |3,s,hs,ho=>ZU hL (h 4) s ho _ (h 4 s hs ho)
 |4,s,hs,ho=>Fm hL (h 5) _ _ _ (h 5 s hs ho) ho
 |5,s,hs,ho=>Fm hL (h 6) _ _ _ (h 6 s hs ho) ho
 |_w+6,s,hs,ho=>Rs hL (h 6) (h 0) s hs ho
theorem JO (s:RS):(yS L s).at_=s.at_:=by unfold yS;split<;>rfl
theorem p7 (s:RS):(yS L s).bZ=s.bZ+1:=by unfold yS;split<;>rfl
theorem uu {s:RS} (h:(yS L s).err=0):s.err=0/\s.bZ+1<=200:=by
 unfold yS at h
 split at h
 .simp at h
 .rename_i hc
  refine⟨h, ?_⟩
  by_cases q:s.bZ+1>200
  .exact absurd ⟨h,q⟩ hc
  .omega
theorem uv {s:RS} (hs:dj L s) (h:s.bZ<=200):dj L (yS L s):=⟨by rw[JO];exact hs.at_,by rw[p7];have:=hs.bZ;omega⟩
theorem Rt {s:RS} (hs:dj L s) (h:1<=s.bZ):dj L (dE s):=⟨hs.at_,by have:=hs.bZ;simp only[dE];omega⟩
theorem ZW {k:RS->PR} (s:RS) (hs:dj L s) (h2:s.bZ<=200) (hk:(yS L s).err=0->PI L (yS L s) (k (yS L s))):PI L s (jJ L k s):=by
 have hr:=uv hs h2
 have ho:=hs.bZ
 unfold jJ
 split
 .rename_i he
  have hy:=hk he
  have h1:=hy.bZ
  have h3:=hy.up
  rw[p7]at h1
  rw[JO]at h3
  refine⟨Rt hy.cz om, ?_,h3,λh=>⟨(uu he).1,(hy.err h).2⟩,hy.wide⟩
  simp only[dE]
  omega
 .rename_i he
  refine CY rfl (Rt hr (by rw[p7];omega)) ?_ ?_ (λh=>absurd h he)
  .simp only[dE,p7];omega
  .simp only[dE,JO];exact A7 _
theorem JP (hL:eO L): ∀(f:Nat) (w:Nat) (s:RS),dj L s->s.bZ<=200->201<=(f:Int)+s.bZ->PI L s (pF L f w s)
 |0,w,s,hs,h2,hf=>by omega
 |f+1,w,s,hs,h2,hf=>by
  unfold pF
  refine ZW s hs h2 (λhe=> ?_)
  have h3:=(uu he).2
  exact ZV hL (o:=s.bZ+1) (λw t ht ho=>JP hL f w t ht om (by push_cast at hf;omega)) w _ (uv hs h2) (p7 s)
structure PW (L:List bR) (rec:Nat->RS->PR) (o:Int):Prop where
 ok: ∀w s,dj L s->s.bZ=o->PI L s (rec w s)
 chain: ∀k:Nat,k<=1-> ∀s,dj L s->s.bZ=o->bN prog 246 [.ptr 0 0,.int .i64 (k:Int)] [rB L s] (RR L (rec k s))
 not: ∀s,dj L s->s.bZ=o->bN prog 317 [.ptr 0 0] [rB L s] (RR L (rec 2 s))
 cmp: ∀s,dj L s->s.bZ=o->bN prog 329 [.ptr 0 0] [rB L s] (RR L (rec 3 s))
 sum: ∀s,dj L s->s.bZ=o->bN prog 335 [.ptr 0 0] [rB L s] (RR L (rec 4 s))
 prod: ∀s,dj L s->s.bZ=o->bN prog 336 [.ptr 0 0] [rB L s] (RR L (rec 5 s))
 unary: ∀s,dj L s->s.bZ=o->bN prog 337 [.ptr 0 0] [rB L s] (RR L (rec 6 s))
theorem zi {g:Tag} {L:List bR} {s:RS} {x:PR} (h:x=(e,s)):cw (some (.agg [.int .i64 e.kind,.str e.s,.int .i64 e.v.kind,.int .i64 e.v.n,.str e.v.s,.sl g (e.args.map bJ.row)])) 1 (RR L x) (rB L s::τ):=by
 subst h
 refine xL (r:= .agg [.int .i64 e.kind,.str e.s,.int .i64 e.v.kind,.int .i64 e.v.n,.str e.v.s,.sl .ro (e.args.map bJ.row)]) (wL ⟨zF rfl,zF rfl,zF rfl,zF rfl,zF rfl,zW,tV⟩) ⟨by rw[bJ.bS],rfl⟩
def zB:Ob:= .box [.int .i64 0,.str [],.int .i64 0,.int .i64 0,.str [],.sl .full []]
theorem CZ (h0:0<=o) (h1:o<=1000):IntKind.i64.wrap (o - 1)=o - 1:=bX om om
theorem ZX (L:List bR) (hL:eO L) (rec:Nat->RS->PR) (s:RS) (hs:dj L s) (h2:s.bZ<=200) (ak:s.bZ+1<=200->PW L rec (s.bZ+1)):
  bN prog 335 [.ptr 0 0] [rB L s] (RR L (jJ L (kh L rec 4) s)):=by
 have hr:=CQ L hL s hs om
 have aa:=uv hs h2
 have ab:=p7 (L:=L) s
 have al:=uu (L:=L) (s:=s)
 have ho:=hs.bZ
 have hM:jJ L (kh L rec 4) s=if(yS L s).err=0 then((eQ L oA (rec 5) L.length (rec 5 (yS L s))).1,dE (eQ L oA (rec 5) L.length (rec 5 (yS L s))).2)else(cT,dE (yS L s)):=rfl
 generalize jJ L (kh L rec 4) s=M at hM⊢
 generalize yS L s=s1 at hr aa ab al hM
 have eo:=CZ (o:=s1.bZ) om om
 refine iV 1 func335 ntmps335 results335 λc hc hb=> ?_
 by_cases q1:s1.err=0
 rotate_left
 .have af:(s1.err==0)=false:=sU q1
  rw[ahf q1]at hM
  rw[af]at hr
  refine zA ?_
  simp[go_sem]
  refine pR hr ?_
  simp[go_sem,rB,eo]
  exact zi (e:=cT) (s:=dE s1) hM
 have af:(s1.err==0)=true:=sU q1
 rw[ahg q1]at hM
 rw[af]at hr
 have hP:=ak (al q1).2
 have ah:=hP.ok 5 s1 aa ab
 have an:=hP.prod s1 aa ab
 generalize rec 5 s1=x0 at ah an hM
 have ae:=zh L hL x0.2 ah.cz oA dC
 obtain⟨N,hN⟩:=eX L.length
 rw[hN]at hM
 refine zA ?_
 simp[go_sem]
 refine pR hr ?_
 simp[go_sem]
 refine jK an cB fu ?_
 simp[go_sem]
 refine pR ae ?_
 simp[go_sem]
 refine zI (S:=PR) [0,2,3,4] (λx=> [.ptr 0 0,.ptr 1 0,.ptr 2 0,.str (dY L x.2 oA)]) (λx=> [rB L x.2,zB,.box x.1.row]) (λx=>N - x.2.at_) (λx=>PI L s1 x/\ ∃n,N<=n+x.2.at_/\((eQ L oA (rec 5) n x).1,dE (eQ L oA (rec 5) n x).2)=M) hc hb x0 ⟨ah,N,om,hM.symm⟩ ?_ ?_
 .exact cd 3 (by simp[go_sem,zB]) rfl (by simp[rB,zB,bT,cQ,cL,bJ.bS]) dC (zD sg rfl)
 rintro x ⟨hx,n,hn,hinv⟩
 have ay:=hx.cz.at_
 have ae:=zh L hL x.2 hx.cz oA dC
 have ao:=mY L hL x.2 hx.cz
 have ad:=hx.bZ
 by_cases q:dY L x.2 oA= []
 .have av:M=(x.1,dE x.2):=by
   cases n with
   |zero=>exact hinv.symm
   |succ n=>rw[eQ,ahg q]at hinv;exact hinv.symm
  have aw:IntKind.i64.wrap (x.2.bZ - 1)=x.2.bZ - 1:=by rw[ad];exact eo
  refine zA ?_
  simp[go_sem,q,rB,aw]
  exact wI (s:=dE x.2) av
 obtain⟨n,rfl⟩: ∃m,n=m+1:=⟨n - 1,om⟩
 rw[eQ,ahf q]at hinv
 have hi:=CV q
 have aq:=hx.cz.next hL hi
 have hy:=hP.ok 5 (zP x.2) aq (by show x.2.bZ=_;rw[ad,ab])
 have ar:=hP.prod (zP x.2) aq (by show x.2.bZ=_;rw[ad,ab])
 generalize rec 5 (zP x.2)=y at hy ar hinv
 have ax:=hy.up
 rw[nJ]at ax
 have hz:PI L s1 (gU (cC L x.2).place (dY L x.2 oA) [x.1,y.1] y.2):=ur _ _ hy.cz (by rw[hy.bZ];exact ad) (by have:=hx.up;omega) (λhe=>(hx.err (hy.err he).1).1) sm (λe he=>by
  simp only[Af,Be,aht]at he
  rcases he with rfl|rfl
  .exact hx.wide
  .exact hy.wide)
 have ai:=ma L y.2 (cC L x.2).place (dY L x.2 oA) [x.1,y.1] sm (λe he=>by
  simp only[Af,Be,aht]at he
  rcases he with rfl|rfl
  .exact hx.wide
  .exact hy.wide) (λhe=>by
   have h1:=(hy.err he).2
   have h2:=(hx.err (hy.err he).1).2
   simp only[wJ]
   omega)
 have au:(gU (cC L x.2).place (dY L x.2 oA) [x.1,y.1] y.2).2.at_=y.2.at_:=CU _ _ _ _
 generalize gU (cC L x.2).place (dY L x.2 oA) [x.1,y.1] y.2=z at hz ai hinv au
 have aj:=zh L hL z.2 hz.cz oA dC
 have az:=hz.cz.at_
 have hl:=hL.len
 have ei:IntKind.i64.wrap ((x.2.at_:Int)+1)=((x.2.at_+1:Nat):Int):=by rw[bX om om];omega
 have q':(dY L x.2 oA).isEmpty=false:=sU q
 refine zA ?_
 simp[go_sem,q']
 refine pR ao ?_
 simp[go_sem,rB,ei]
 simp only[Ai,Bh,bJ.bS]at ai
 refine wH [(3,1),(5,3),(7,3)] 1 3 sm kR kR ?_
 simp[go_sem]
 refine rC ar cB fu ?_
 simp[go_sem,bJ.bS]
 refine rC ai cB (wK ⟨zC rfl,zC rfl,zK,tV⟩) ?_
 simp[go_sem,bJ.bS]
 refine pR aj ?_
 simp[go_sem]
 refine zH z ⟨om,⟨hz,n,om,hinv⟩, ?_⟩
 exact cd 3 (by simp[go_sem,rB,zB,bJ.bS]) rfl (by simp[zB,bT,cQ,cL,bJ.bS]) dC (zD sg rfl)
theorem ZY (L:List bR) (hL:eO L) (rec:Nat->RS->PR) (s:RS) (hs:dj L s) (h2:s.bZ<=200) (ak:s.bZ+1<=200->PW L rec (s.bZ+1)):
  bN prog 336 [.ptr 0 0] [rB L s] (RR L (jJ L (kh L rec 5) s)):=by
 have hr:=CQ L hL s hs om
 have aa:=uv hs h2
 have ab:=p7 (L:=L) s
 have al:=uu (L:=L) (s:=s)
 have ho:=hs.bZ
 have hM:jJ L (kh L rec 5) s=if(yS L s).err=0 then((eQ L oB (rec 6) L.length (rec 6 (yS L s))).1,dE (eQ L oB (rec 6) L.length (rec 6 (yS L s))).2)else(cT,dE (yS L s)):=rfl
 generalize jJ L (kh L rec 5) s=M at hM⊢
 generalize yS L s=s1 at hr aa ab al hM
 have eo:=CZ (o:=s1.bZ) om om
 refine iV 1 func336 ntmps336 results336 λc hc hb=> ?_
 by_cases q1:s1.err=0
 rotate_left
 .have af:(s1.err==0)=false:=sU q1
  rw[ahf q1]at hM
  rw[af]at hr
  refine zA ?_
  simp[go_sem]
  refine pR hr ?_
  simp[go_sem,rB,eo]
  exact zi (e:=cT) (s:=dE s1) hM
 have af:(s1.err==0)=true:=sU q1
 rw[ahg q1]at hM
 rw[af]at hr
 have hP:=ak (al q1).2
 have ah:=hP.ok 6 s1 aa ab
 have an:=hP.unary s1 aa ab
 generalize rec 6 s1=x0 at ah an hM
 have ae:=zh L hL x0.2 ah.cz oB dC
 obtain⟨N,hN⟩:=eX L.length
 rw[hN]at hM
 refine zA ?_
 simp[go_sem]
 refine pR hr ?_
 simp[go_sem]
 refine jK an cB fu ?_
 simp[go_sem]
 refine pR ae ?_
 simp[go_sem]
 refine zI (S:=PR) [0,2,3,4] (λx=> [.ptr 0 0,.ptr 1 0,.ptr 2 0,.str (dY L x.2 oB)]) (λx=> [rB L x.2,zB,.box x.1.row]) (λx=>N - x.2.at_) (λx=>PI L s1 x/\ ∃n,N<=n+x.2.at_/\((eQ L oB (rec 6) n x).1,dE (eQ L oB (rec 6) n x).2)=M) hc hb x0 ⟨ah,N,om,hM.symm⟩ ?_ ?_
 .exact cd 3 (by simp[go_sem,zB]) rfl (by simp[rB,zB,bT,cQ,cL,bJ.bS]) dC (zD sg rfl)
 rintro x ⟨hx,n,hn,hinv⟩
 have ay:=hx.cz.at_
 have ae:=zh L hL x.2 hx.cz oB dC
 have ao:=mY L hL x.2 hx.cz
 have ad:=hx.bZ
 by_cases q:dY L x.2 oB= []
 .have av:M=(x.1,dE x.2):=by
   cases n with
   |zero=>exact hinv.symm
   |succ n=>rw[eQ,ahg q]at hinv;exact hinv.symm
  have aw:IntKind.i64.wrap (x.2.bZ - 1)=x.2.bZ - 1:=by rw[ad];exact eo
  refine zA ?_
  simp[go_sem,q,rB,aw]
  exact wI (s:=dE x.2) av
 obtain⟨n,rfl⟩: ∃m,n=m+1:=⟨n - 1,om⟩
 rw[eQ,ahf q]at hinv
 have hi:=CV q
 have aq:=hx.cz.next hL hi
 have hy:=hP.ok 6 (zP x.2) aq (by show x.2.bZ=_;rw[ad,ab])
 have ar:=hP.unary (zP x.2) aq (by show x.2.bZ=_;rw[ad,ab])
 generalize rec 6 (zP x.2)=y at hy ar hinv
 have ax:=hy.up
 rw[nJ]at ax
 have hz:PI L s1 (gU (cC L x.2).place (dY L x.2 oB) [x.1,y.1] y.2):=ur _ _ hy.cz (by rw[hy.bZ];exact ad) (by have:=hx.up;omega) (λhe=>(hx.err (hy.err he).1).1) sm (λe he=>by
  simp only[Af,Be,aht]at he
  rcases he with rfl|rfl
  .exact hx.wide
  .exact hy.wide)
 have ai:=ma L y.2 (cC L x.2).place (dY L x.2 oB) [x.1,y.1] sm (λe he=>by
  simp only[Af,Be,aht]at he
  rcases he with rfl|rfl
  .exact hx.wide
  .exact hy.wide) (λhe=>by
   have h1:=(hy.err he).2
   have h2:=(hx.err (hy.err he).1).2
   simp only[wJ]
   omega)
 have au:(gU (cC L x.2).place (dY L x.2 oB) [x.1,y.1] y.2).2.at_=y.2.at_:=CU _ _ _ _
 generalize gU (cC L x.2).place (dY L x.2 oB) [x.1,y.1] y.2=z at hz ai hinv au
 have aj:=zh L hL z.2 hz.cz oB dC
 have az:=hz.cz.at_
 have hl:=hL.len
 have ei:IntKind.i64.wrap ((x.2.at_:Int)+1)=((x.2.at_+1:Nat):Int):=by rw[bX om om];omega
 have q':(dY L x.2 oB).isEmpty=false:=sU q
 refine zA ?_
 simp[go_sem,q']
 refine pR ao ?_
 simp[go_sem,rB,ei]
 simp only[Ai,Bh,bJ.bS]at ai
 refine wH [(3,1),(5,3),(7,3)] 1 3 sm kR kR ?_
 simp[go_sem]
 refine rC ar cB fu ?_
 simp[go_sem,bJ.bS]
 refine rC ai cB (wK ⟨zC rfl,zC rfl,zK,tV⟩) ?_
 simp[go_sem,bJ.bS]
 refine pR aj ?_
 simp[go_sem]
 refine zH z ⟨om,⟨hz,n,om,hinv⟩, ?_⟩
 exact cd 3 (by simp[go_sem,rB,zB,bJ.bS]) rfl (by simp[zB,bT,cQ,cL,bJ.bS]) dC (zD sg rfl)
theorem Ru (L:List bR) (rec:Nat->RS->PR) (o:Int) (hP:PW L rec o) (s:RS) (hs:dj L s) (ho:s.bZ=o):bN prog 291 [.ptr 0 0,.int .i64 0] [rB L s] (RR L (rec 1 s)):=by
 have aa:=hP.chain 1 (A7 _) s hs ho
 generalize rec 1 s=x at aa⊢
 refine iW 1 func291 ntmps291 results291 λc hc hb=>zM ?_
 simp[go_sem]
 refine jK aa cB (wK ⟨zC rfl,tV⟩) ?_
 simp[go_sem,bJ.bS]
 exact wI rfl
theorem Rv (L:List bR) (rec:Nat->RS->PR) (o:Int) (hP:PW L rec o) (s:RS) (hs:dj L s) (ho:s.bZ=o):bN prog 291 [.ptr 0 0,.int .i64 1] [rB L s] (RR L (rec 2 s)):=by
 have aa:=hP.not s hs ho
 generalize rec 2 s=x at aa⊢
 refine iW 1 func291 ntmps291 results291 λc hc hb=>zM ?_
 simp[go_sem]
 refine jK aa cB fu ?_
 simp[go_sem,bJ.bS]
 exact wI rfl
theorem Rw (L:List bR) (s:RS) (w:ahP) (hw:w≠ []):(dY L s [w]= []↔dh L w s=false)/\(dh L w s=true->dY L s [w]=w):=by
 unfold dY
 cases dh L w s
 .simp[dY]
 .simp[hw]
theorem ZZ (L:List bR) (hL:eO L) (rec:Nat->RS->PR) (s:RS) (hs:dj L s) (h2:s.bZ<=200) (ak:s.bZ+1<=200->PW L rec (s.bZ+1)):
  bN prog 246 [.ptr 0 0,.int .i64 0] [rB L s] (RR L (jJ L (kh L rec 0) s)):=by
 have hr:=CQ L hL s hs om
 have aa:=uv hs h2
 have ab:=p7 (L:=L) s
 have al:=uu (L:=L) (s:=s)
 have ho:=hs.bZ
 have hM:jJ L (kh L rec 0) s=if(yS L s).err=0 then((eQ L [p6] (rec 1) L.length (rec 1 (yS L s))).1,dE (eQ L [p6] (rec 1) L.length (rec 1 (yS L s))).2)else(cT,dE (yS L s)):=rfl
 generalize jJ L (kh L rec 0) s=M at hM⊢
 generalize yS L s=s1 at hr aa ab al hM
 have eo:=CZ (o:=s1.bZ) om om
 have ad:=Ri
 refine iV 1 func246 ntmps246 results246 λc hc hb=> ?_
 by_cases q1:s1.err=0
 rotate_left
 .have ai:(s1.err==0)=false:=sU q1
  rw[ahf q1]at hM
  rw[ai]at hr
  refine zA ?_
  simp[go_sem]
  refine pR hr ?_
  simp[go_sem,rB,eo]
  exact zi (e:=cT) (s:=dE s1) hM
 have ai:(s1.err==0)=true:=sU q1
 rw[ahg q1]at hM
 rw[ai]at hr
 have hP:=ak (al q1).2
 have an:=hP.ok 1 s1 aa ab
 have ao:=Ru L rec _ hP s1 aa ab
 generalize rec 1 s1=x0 at an ao hM
 obtain⟨N,hN⟩:=eX L.length
 rw[hN]at hM
 refine zA ?_
 simp[go_sem]
 refine pR hr ?_
 simp[go_sem]
 refine jK ao cB (wK ⟨zC rfl,tV⟩) ?_
 simp[go_sem]
 refine zI (S:=PR) [0,1,4,5] (λx=> [.ptr 0 0,.int .i64 0,.ptr 1 0,.ptr 2 0]) (λx=> [rB L x.2,zB,.box x.1.row]) (λx=>N - x.2.at_) (λx=>PI L s1 x/\ ∃n,N<=n+x.2.at_/\((eQ L [p6] (rec 1) n x).1,dE (eQ L [p6] (rec 1) n x).2)=M) hc hb x0 ⟨an,N,om,hM.symm⟩ ?_ ?_
 .exact cd 3 (by simp[go_sem,zB]) rfl (by simp[rB,zB,bT,cQ,cL,bJ.bS]) dC (zD sg rfl)
 rintro x ⟨hx,n,hn,hinv⟩
 have a7:=hx.cz.at_
 have ae:=jg L hL x.2 hx.cz p6
 have aq:=mY L hL x.2 hx.cz
 have af:=hx.bZ
 obtain⟨ax,ay⟩:=Rw L x.2 p6 dC
 by_cases q:dh L p6 x.2=false
 .rw[q]at ae
  have az:M=(x.1,dE x.2):=by
   cases n with
   |zero=>exact hinv.symm
   |succ n=>rw[eQ,ahg (ax.2 q)]at hinv;exact hinv.symm
  have a1:IntKind.i64.wrap (x.2.bZ - 1)=x.2.bZ - 1:=by rw[af];exact eo
  refine zA ?_
  simp[go_sem]
  refine pC ad ?_
  simp[go_sem]
  refine pR ae ?_
  simp[go_sem,rB,a1]
  exact wI (s:=dE x.2) az
 have q:dh L p6 x.2:=sU q
 rw[q]at ae
 obtain⟨n,rfl⟩: ∃m,n=m+1:=⟨n - 1,om⟩
 have ah:=ay q
 rw[eQ,ahf (by rw[ah];decide),ah]at hinv
 have ar:=hx.cz.next hL q
 have hy:=hP.ok 1 (zP x.2) ar (by show x.2.bZ=_;rw[af,ab])
 have au:=Ru L rec _ hP (zP x.2) ar (by show x.2.bZ=_;rw[af,ab])
 generalize rec 1 (zP x.2)=y at hy au hinv
 have a6:=hy.up
 rw[nJ]at a6
 have av: ∀e∈ [x.1,y.1],fp e:=λe he=>by
  simp only[Af,Be,aht]at he
  rcases he with rfl|rfl
  .exact hx.wide
  .exact hy.wide
 have hz:PI L s1 (gU (cC L x.2).place p6 [x.1,y.1] y.2):=ur _ _ hy.cz (by rw[hy.bZ];exact af) (by have:=hx.up;omega) (λhe=>(hx.err (hy.err he).1).1) sm av
 have aj:=ma L y.2 (cC L x.2).place p6 [x.1,y.1] sm av (λhe=>by
   have h1:=(hy.err he).2
   have h2:=(hx.err (hy.err he).1).2
   simp only[wJ]
   omega)
 have aw:(gU (cC L x.2).place p6 [x.1,y.1] y.2).2.at_=y.2.at_:=CU _ _ _ _
 generalize gU (cC L x.2).place p6 [x.1,y.1] y.2=z at hz aj hinv aw
 have a8:=hz.cz.at_
 have hl:=hL.len
 have ei:IntKind.i64.wrap ((x.2.at_:Int)+1)=((x.2.at_+1:Nat):Int):=by rw[bX om om];omega
 simp only[Ai,Bh,bJ.bS]at aj
 refine zA ?_
 simp[go_sem]
 refine pC ad ?_
 simp[go_sem]
 refine pR ae ?_
 simp[go_sem]
 refine pR aq ?_
 simp[go_sem,rB,ei]
 refine wH [(2,0),(11,3),(13,3)] 1 3 sm kR kR ?_
 simp[go_sem]
 refine pD ad ?_
 simp[go_sem]
 refine rC au cB (wK ⟨zC rfl,tV⟩) ?_
 simp[go_sem,bJ.bS]
 refine rC aj cB (wK ⟨zC rfl,zC rfl,zK,tV⟩) ?_
 simp[go_sem,bJ.bS]
 refine zH z ⟨om,⟨hz,n,om,hinv⟩, ?_⟩
 exact cd 3 (by simp[go_sem,rB,zB,bJ.bS]) rfl (by simp[zB,bT,cQ,cL,bJ.bS]) dC (zD sg rfl)
theorem Z0 (L:List bR) (hL:eO L) (rec:Nat->RS->PR) (s:RS) (hs:dj L s) (h2:s.bZ<=200) (ak:s.bZ+1<=200->PW L rec (s.bZ+1)):
  bN prog 246 [.ptr 0 0,.int .i64 1] [rB L s] (RR L (jJ L (kh L rec 1) s)):=by
 have hr:=CQ L hL s hs om
 have aa:=uv hs h2
 have ab:=p7 (L:=L) s
 have al:=uu (L:=L) (s:=s)
 have ho:=hs.bZ
 have hM:jJ L (kh L rec 1) s=if(yS L s).err=0 then((eQ L [jz] (rec 2) L.length (rec 2 (yS L s))).1,dE (eQ L [jz] (rec 2) L.length (rec 2 (yS L s))).2)else(cT,dE (yS L s)):=rfl
 generalize jJ L (kh L rec 1) s=M at hM⊢
 generalize yS L s=s1 at hr aa ab al hM
 have eo:=CZ (o:=s1.bZ) om om
 have ad:=Ri
 refine iV 1 func246 ntmps246 results246 λc hc hb=> ?_
 by_cases q1:s1.err=0
 rotate_left
 .have ai:(s1.err==0)=false:=sU q1
  rw[ahf q1]at hM
  rw[ai]at hr
  refine zA ?_
  simp[go_sem]
  refine pR hr ?_
  simp[go_sem,rB,eo]
  exact zi (e:=cT) (s:=dE s1) hM
 have ai:(s1.err==0)=true:=sU q1
 rw[ahg q1]at hM
 rw[ai]at hr
 have hP:=ak (al q1).2
 have an:=hP.ok 2 s1 aa ab
 have ao:=Rv L rec _ hP s1 aa ab
 generalize rec 2 s1=x0 at an ao hM
 obtain⟨N,hN⟩:=eX L.length
 rw[hN]at hM
 refine zA ?_
 simp[go_sem]
 refine pR hr ?_
 simp[go_sem]
 refine jK ao cB (wK ⟨zC rfl,tV⟩) ?_
 simp[go_sem]
 refine zI (S:=PR) [0,1,4,5] (λx=> [.ptr 0 0,.int .i64 1,.ptr 1 0,.ptr 2 0]) (λx=> [rB L x.2,zB,.box x.1.row]) (λx=>N - x.2.at_) (λx=>PI L s1 x/\ ∃n,N<=n+x.2.at_/\((eQ L [jz] (rec 2) n x).1,dE (eQ L [jz] (rec 2) n x).2)=M) hc hb x0 ⟨an,N,om,hM.symm⟩ ?_ ?_
 .exact cd 3 (by simp[go_sem,zB]) rfl (by simp[rB,zB,bT,cQ,cL,bJ.bS]) dC (zD sg rfl)
 rintro x ⟨hx,n,hn,hinv⟩
 have a7:=hx.cz.at_
 have ae:=jg L hL x.2 hx.cz jz
 have aq:=mY L hL x.2 hx.cz
 have af:=hx.bZ
 obtain⟨ax,ay⟩:=Rw L x.2 jz dC
 by_cases q:dh L jz x.2=false
 .rw[q]at ae
  have az:M=(x.1,dE x.2):=by
   cases n with
   |zero=>exact hinv.symm
   |succ n=>rw[eQ,ahg (ax.2 q)]at hinv;exact hinv.symm
  have a1:IntKind.i64.wrap (x.2.bZ - 1)=x.2.bZ - 1:=by rw[af];exact eo
  refine zA ?_
  simp[go_sem]
  refine pC ad ?_
  simp[go_sem]
  refine pR ae ?_
  simp[go_sem,rB,a1]
  exact wI (s:=dE x.2) az
 have q:dh L jz x.2:=sU q
 rw[q]at ae
 obtain⟨n,rfl⟩: ∃m,n=m+1:=⟨n - 1,om⟩
 have ah:=ay q
 rw[eQ,ahf (by rw[ah];decide),ah]at hinv
 have ar:=hx.cz.next hL q
 have hy:=hP.ok 2 (zP x.2) ar (by show x.2.bZ=_;rw[af,ab])
 have au:=Rv L rec _ hP (zP x.2) ar (by show x.2.bZ=_;rw[af,ab])
 generalize rec 2 (zP x.2)=y at hy au hinv
 have a6:=hy.up
 rw[nJ]at a6
 have av: ∀e∈ [x.1,y.1],fp e:=λe he=>by
  simp only[Af,Be,aht]at he
  rcases he with rfl|rfl
  .exact hx.wide
  .exact hy.wide
 have hz:PI L s1 (gU (cC L x.2).place jz [x.1,y.1] y.2):=ur _ _ hy.cz (by rw[hy.bZ];exact af) (by have:=hx.up;omega) (λhe=>(hx.err (hy.err he).1).1) sm av
 have aj:=ma L y.2 (cC L x.2).place jz [x.1,y.1] sm av (λhe=>by
   have h1:=(hy.err he).2
   have h2:=(hx.err (hy.err he).1).2
   simp only[wJ]
   omega)
 have aw:(gU (cC L x.2).place jz [x.1,y.1] y.2).2.at_=y.2.at_:=CU _ _ _ _
 generalize gU (cC L x.2).place jz [x.1,y.1] y.2=z at hz aj hinv aw
 have a8:=hz.cz.at_
 have hl:=hL.len
 have ei:IntKind.i64.wrap ((x.2.at_:Int)+1)=((x.2.at_+1:Nat):Int):=by rw[bX om om];omega
 simp only[Ai,Bh,bJ.bS]at aj
 refine zA ?_
 simp[go_sem]
 refine pC ad ?_
 simp[go_sem]
 refine pR ae ?_
 simp[go_sem]
 refine pR aq ?_
 simp[go_sem,rB,ei]
 refine wH [(2,0),(11,3),(13,3)] 1 3 sm kR kR ?_
 simp[go_sem]
 refine pD ad ?_
 simp[go_sem]
 refine rC au cB (wK ⟨zC rfl,tV⟩) ?_
 simp[go_sem,bJ.bS]
 refine rC aj cB (wK ⟨zC rfl,zC rfl,zK,tV⟩) ?_
 simp[go_sem,bJ.bS]
 refine zH z ⟨om,⟨hz,n,om,hinv⟩, ?_⟩
 exact cd 3 (by simp[go_sem,rB,zB,bJ.bS]) rfl (by simp[zB,bT,cQ,cL,bJ.bS]) dC (zD sg rfl)
theorem JQ {x:bJ} (h:fp x): ∀e∈ [x],fp e:=λe he=>by
 simp only[Af,Be,aht]at he
 subst he
 exact h
theorem Z1 {x y:bJ} (h:fp x) (h2:fp y): ∀e∈ [x,y],fp e:=λe he=>by
 simp only[Af,Be,aht]at he
 rcases he with rfl|rfl
 .exact h
 .exact h2
theorem Z2 (L:List bR) (hL:eO L) (rec:Nat->RS->PR) (s:RS) (hs:dj L s) (h2:s.bZ<=200) (ak:s.bZ+1<=200->PW L rec (s.bZ+1)):
  bN prog 317 [.ptr 0 0] [rB L s] (RR L (jJ L (kh L rec 2) s)):=by
 have hr:=CQ L hL s hs om
 have aa:=uv hs h2
 have ad:=p7 (L:=L) s
 have al:=uu (L:=L) (s:=s)
 have ho:=hs.bZ
 have hM:jJ L (kh L rec 2) s=if(yS L s).err=0 then((na L (rec 2) (rec 3) (yS L s)).1,dE (na L (rec 2) (rec 3) (yS L s)).2)else(cT,dE (yS L s)):=rfl
 generalize jJ L (kh L rec 2) s=M at hM⊢
 generalize yS L s=s1 at hr aa ad al hM
 have eo:=CZ (o:=s1.bZ) om om
 refine iW 1 func317 ntmps317 results317 λc hc hb=>zM ?_
 by_cases q1:s1.err=0
 rotate_left
 .have ah:(s1.err==0)=false:=sU q1
  rw[ahf q1]at hM
  rw[ah]at hr
  simp[go_sem]
  refine pR hr ?_
  simp[go_sem,rB,eo]
  exact zi (e:=cT) (s:=dE s1) hM
 have ah:(s1.err==0)=true:=sU q1
 rw[ahg q1]at hM
 rw[ah]at hr
 have hP:=ak (al q1).2
 have af:=mY L hL s1 aa
 have ab:=CO L hL s1 aa jW
 unfold na at hM
 unfold l9 at ab
 by_cases q:dh L jW s1=true
 .rw[ahg q]at hM
  rw[ahg q,q]at ab
  have an:=aa.next hL q
  have hy:=hP.ok 2 (zP s1) an ad
  have ae:=hP.not (zP s1) an ad
  generalize rec 2 (zP s1)=y at hy ae hM
  have ai:=ma L y.2 (cC L s1).place jW [y.1] sm (JQ hy.wide) (λhe=>by
   have h1:=(hy.err he).2
   simp only[wJ]
   omega)
  have ao:(gU (cC L s1).place jW [y.1] y.2).2.bZ=s1.bZ:=by
   show(mZ _ _ _ y.2).bZ=_
   rw[JN,hy.bZ];rfl
  generalize gU (cC L s1).place jW [y.1] y.2=z at ai hM ao
  have aj:IntKind.i64.wrap (z.2.bZ - 1)=z.2.bZ - 1:=by rw[ao];exact eo
  simp only[Ai,Bh,bJ.bS]at ai
  simp[go_sem]
  refine pR hr ?_
  simp[go_sem]
  refine pR af ?_
  simp[go_sem]
  refine pR ab ?_
  simp[go_sem]
  refine jK ae cB fu ?_
  simp[go_sem,bJ.bS]
  refine jK ai cB (wK ⟨zC rfl,zC rfl,zK,tV⟩) ?_
  simp[go_sem,rB,bJ.bS,aj]
  exact wI (s:=dE z.2) hM
 .have q:dh L jW s1=false:=sU q
  rw[ahf (by rw[q];decide)]at hM
  rw[ahf (by rw[q];decide),q]at ab
  have hy:=hP.ok 3 s1 aa ad
  have ae:=hP.cmp s1 aa ad
  generalize rec 3 s1=z at hy ae hM
  have aj:IntKind.i64.wrap (z.2.bZ - 1)=z.2.bZ - 1:=by rw[hy.bZ];exact eo
  simp[go_sem]
  refine pR hr ?_
  simp[go_sem]
  refine pR af ?_
  simp[go_sem]
  refine pR ab ?_
  simp[go_sem]
  refine jK ae cB fu ?_
  simp[go_sem,rB,bJ.bS,aj]
  exact wI (s:=dE z.2) hM
theorem Z3 (L:List bR) (s:RS) (w:ahP) (ws:List ahP) (h:dh L w s):dY L s (w::ws)=w:=by unfold dY;rw[ahg h]
theorem Z4 (L:List bR) (s:RS) (w:ahP) (ws:List ahP) (h:dh L w s=false):dY L s (w::ws)=dY L s ws:=by unfold dY;rw[ahf (by rw[h];decide)];cases ws<;>rfl
theorem Z5: ∀w∈fL,w≠ []:=dC
theorem Z6 (L:List bR) (hL:eO L) (rec:Nat->RS->PR) (s:RS) (hs:dj L s) (h2:s.bZ<=200) (ay:s.bZ+1<=200->PW L rec (s.bZ+1)):
  bN prog 329 [.ptr 0 0] [rB L s] (RR L (jJ L (kh L rec 3) s)):=by
 have hr:=CQ L hL s hs om
 have ai:=uv hs h2
 have aj:=p7 (L:=L) s
 have az:=uu (L:=L) (s:=s)
 have ho:=hs.bZ
 have hM:jJ L (kh L rec 3) s=if(yS L s).err=0 then((nb L (rec 4) (rec 4 (yS L s))).1,dE (nb L (rec 4) (rec 4 (yS L s))).2)else(cT,dE (yS L s)):=rfl
 generalize jJ L (kh L rec 3) s=M at hM⊢
 generalize yS L s=s1 at hr ai aj az hM
 have eo:=CZ (o:=s1.bZ) om om
 refine iV 1 func329 ntmps329 results329 λc hc hb=> ?_
 by_cases q1:s1.err=0
 rotate_left
 .have aw:(s1.err==0)=false:=sU q1
  rw[ahf q1]at hM
  rw[aw]at hr
  refine zA ?_
  simp[go_sem]
  refine pR hr ?_
  simp[go_sem,rB,eo]
  exact zi (e:=cT) (s:=dE s1) hM
 have aw:(s1.err==0)=true:=sU q1
 rw[ahg q1]at hM
 rw[aw]at hr
 have hP:=ay (az q1).2
 have hx:=hP.ok 4 s1 ai aj
 have au:=hP.sum s1 ai aj
 generalize rec 4 s1=x at hx au hM
 have ak:=mY L hL x.2 hx.cz
 have aa:=CO L hL x.2 hx.cz JK
 have af:=hx.bZ
 unfold nb at hM
 unfold l9 at aa
 by_cases q:dh L JK x.2=true
 .rw[ahg q]at hM
  rw[ahg q,q]at aa
  have ah:=hx.cz.next hL q
  have ab:=CO L hL (zP x.2) ah jW
  unfold l9 at ab
  by_cases q2:dh L jW (zP x.2)=true
  .rw[ahg q2]at hM
   rw[ahg q2,q2]at ab
   have a8:=ah.next hL q2
   have al:=k6 L hL _ a8 oz
   have an:=CX (L:=L) oz (zP (zP x.2))
   have ao:=vQ (L:=L) (w:=oz) (s:=zP (zP x.2))
   generalize yG L oz (zP (zP x.2))=u at al an ao hM
   have ax:u.bZ=s1.bZ:=by rw[an];exact af
   have ae:IntKind.i64.wrap (u.bZ - 1)=u.bZ - 1:=by rw[ax];exact eo
   have ad:=ma L (dE u) (cC L x.2).place JM [x.1] sm (JQ hx.wide) (λhe=>by
    have h1:=(hx.err (ao he).1).2
    simp only[wJ]
    omega)
   have aq:M=gU (cC L x.2).place JM [x.1] (dE u):=by rw[hM];unfold gU;rw[Rl]
   clear hM
   generalize gU (cC L x.2).place JM [x.1] (dE u)=z at ad aq
   simp only[Ai,Bh,bJ.bS]at ad
   refine zA ?_
   simp[go_sem]
   refine pR hr ?_
   simp[go_sem]
   refine jK au cB fu ?_
   simp[go_sem,bJ.bS]
   refine pR ak ?_
   simp[go_sem]
   refine pR aa ?_
   simp[go_sem]
   refine pR ab ?_
   simp[go_sem]
   refine pR al ?_
   simp[go_sem,rB,ae]
   refine jK (s:=dE u) ad cB (wK ⟨zC rfl,zC rfl,zK,tV⟩) ?_
   simp[go_sem,bJ.bS]
   exact wI aq
  .have q2:dh L jW (zP x.2)=false:=sU q2
   rw[ahf (by rw[q2];decide)]at hM
   rw[ahf (by rw[q2];decide),q2]at ab
   have al:=k6 L hL _ ah oz
   have an:=CX (L:=L) oz (zP x.2)
   have ao:=vQ (L:=L) (w:=oz) (s:=zP x.2)
   generalize yG L oz (zP x.2)=u at al an ao hM
   have ax:u.bZ=s1.bZ:=by rw[an];exact af
   have ae:IntKind.i64.wrap (u.bZ - 1)=u.bZ - 1:=by rw[ax];exact eo
   have ad:=ma L (dE u) (cC L x.2).place JL [x.1] sm (JQ hx.wide) (λhe=>by
    have h1:=(hx.err (ao he).1).2
    simp only[wJ]
    omega)
   have aq:M=gU (cC L x.2).place JL [x.1] (dE u):=by rw[hM];unfold gU;rw[Rl]
   clear hM
   generalize gU (cC L x.2).place JL [x.1] (dE u)=z at ad aq
   simp only[Ai,Bh,bJ.bS]at ad
   refine zA ?_
   simp[go_sem]
   refine pR hr ?_
   simp[go_sem]
   refine jK au cB fu ?_
   simp[go_sem,bJ.bS]
   refine pR ak ?_
   simp[go_sem]
   refine pR aa ?_
   simp[go_sem]
   refine pR ab ?_
   simp[go_sem]
   refine pR al ?_
   simp[go_sem,rB,ae]
   refine jK (s:=dE u) ad cB (wK ⟨zC rfl,zC rfl,zK,tV⟩) ?_
   simp[go_sem,bJ.bS]
   exact wI aq
 have q:dh L JK x.2=false:=sU q
 rw[ahf (by rw[q];decide)]at hM
 rw[ahf (by rw[q];decide),q]at aa
 refine zA ?_
 simp[go_sem]
 refine pR hr ?_
 simp[go_sem]
 refine jK au cB fu ?_
 simp[go_sem,bJ.bS]
 refine pR ak ?_
 simp[go_sem]
 refine pR aa ?_
 simp[go_sem]
 refine zI (S:=Nat) [0,2,3,4,5,7] (λi=> [.ptr 0 0,.ptr 1 0,.ptr 2 0,.int .i64 (cC L x.2).place,.sl .ro (fL.map λw=> [V.str w]),.int .i64 (i:Int)]) (λ_=> [rB L x.2,zB,.box x.1.row]) (λi=>6 - i) (λi=>i<=6/\dY L x.2 (fL.drop i)=dY L x.2 fL) hc hb 0 ⟨A4 _,rfl⟩ ?_ ?_
 .exact cd 3 (by simp[go_sem,zB,bJ.bS]) rfl (by simp[rB,zB,bT,cQ,cL,bJ.bS]) dC ⟨lR (by rfl),lR (by rfl),lR (by rfl),zC rfl,zK,zC rfl,tV⟩
 rintro i ⟨hi,hinv⟩
 by_cases qi:i<6
 rotate_left
 .obtain rfl:i=6:=om
  have ha:dY L x.2 fL= []:=by rw[<-hinv];rfl
  rw[ahg ha]at hM
  have ae:IntKind.i64.wrap (x.2.bZ - 1)=x.2.bZ - 1:=by rw[af];exact eo
  refine zA ?_
  simp[go_sem,fL,rB,ae,bJ.bS]
  exact wI (s:=dE x.2) hM
 have ar:i<fL.length:=qi
 obtain⟨w,hw⟩:=eX (fL[i])
 have aA:w∈fL:=hw▸A8 ar
 have aB:=Z5 w aA
 rw[A5 ar,hw]at hinv
 have aa:=CO L hL x.2 hx.cz w
 unfold l9 at aa
 have a1:decide ((i:Int)<6)=true:=ahi om
 have ei:=zQ qi dC
 have av:(fL.length:Int)=6:=rfl
 by_cases qw:dh L w x.2=true
 rotate_left
 .have qw:dh L w x.2=false:=sU qw
  rw[Z4 L x.2 w _ qw]at hinv
  rw[ahf (by rw[qw];decide),qw]at aa
  refine zA ?_
  simp[go_sem,av,a1,ar,hw]
  refine zJ om ?_
  simp[go_sem]
  refine pR aa ?_
  simp[go_sem,ei]
  refine zH (i+1) ⟨om,⟨om,hinv⟩, ?_⟩
  exact cd 3 (by simp[go_sem,rB,zB,bJ.bS]) rfl (by simp[rB,zB,bT,cQ,cL,bJ.bS]) dC (zD sg rfl)
 rw[Z3 L x.2 w _ qw]at hinv
 rw[ahf (by rw[<-hinv];exact aB),<-hinv]at hM
 rw[ahg qw,qw]at aa
 have ah:=hx.cz.next hL qw
 have hy:=hP.ok 4 (zP x.2) ah (by show x.2.bZ=_;rw[af,aj])
 have a6:=hP.sum (zP x.2) ah (by show x.2.bZ=_;rw[af,aj])
 generalize rec 4 (zP x.2)=y at hy a6 hM
 have ad:=ma L y.2 (cC L x.2).place w [x.1,y.1] sm (Z1 hx.wide hy.wide) (λhe=>by
   have h1:=(hy.err he).2
   have h2:=(hx.err (hy.err he).1).2
   simp only[wJ]
   omega)
 have a7:(gU (cC L x.2).place w [x.1,y.1] y.2).2.bZ=s1.bZ:=by
  show(mZ _ _ _ y.2).bZ=_
  rw[JN,hy.bZ];exact af
 generalize gU (cC L x.2).place w [x.1,y.1] y.2=z at ad hM a7
 have ae:IntKind.i64.wrap (z.2.bZ - 1)=z.2.bZ - 1:=by rw[a7];exact eo
 simp only[Ai,Bh,bJ.bS]at ad
 refine zA ?_
 simp[go_sem,av,a1,ar,hw]
 refine zJ om ?_
 simp[go_sem]
 refine pR aa ?_
 simp[go_sem]
 refine wH [(8,3),(10,3)] 1 3 sm kR kR ?_
 simp[go_sem,ar,hw]
 refine rC a6 cB fu ?_
 simp[go_sem,bJ.bS]
 refine rC ad cB (wK ⟨zC rfl,zC rfl,zK,tV⟩) ?_
 simp[go_sem,rB,bJ.bS,ae]
 exact wI (s:=dE z.2) hM
theorem G8 (v:bK):Pure prog 339 [.agg v.row] (.agg (jV v).row):=by
 refine iW 0 func339 ntmps339 results339 λc hc hb=>zM ?_
 simp[go_sem]
 exact zX (r:= .agg [.int .i64 1,.str [],.int .i64 v.kind,.int .i64 v.n,.str v.s,.sl .ro []]) (wL ⟨zF rfl,zF rfl,zF rfl,zF rfl,zF rfl,zW,tV⟩) ⟨rfl,rfl⟩
theorem xO (L:List bR) (hL:eO L) (s:RS) (hs:dj L s) (w:ahP) (h:dh L w s):bN prog 67 [.ptr 0 0,.str w] [rB L s] (λr I=>r= .bool true/\I= [rB L (zP s)]):=by
 have:=CO L hL s hs w
 unfold l9 at this
 rw[ahg h,h]at this
 exact this
theorem wO (L:List bR) (hL:eO L) (s:RS) (hs:dj L s) (w:ahP) (h:dh L w s=false):bN prog 67 [.ptr 0 0,.str w] [rB L s] (λr I=>r= .bool false/\I= [rB L s]):=by
 have:=CO L hL s hs w
 unfold l9 at this
 rw[ahf (by rw[h];decide),h]at this
 exact this
theorem Z7 (L:List bR) (hL:eO L) (rec:Nat->RS->PR) (s:RS) (hs:dj L s) (hP:PW L rec s.bZ)
  (hex: ∀s',dj L s'->s'.bZ=s.bZ->bN prog 186 [.ptr 0 0] [rB L s'] (RR L (rec 0 s'))):
  bN prog 338 [.ptr 0 0] [rB L s] (RR L (sO L (rec 6) (rec 0) s)):=by
 generalize hM:sO L (rec 6) (rec 0) s=M
 unfold sO at hM
 have ab:=mY L hL s hs
 have ao:=hs.at_
 have hl:=hL.len
 have ei:IntKind.i64.wrap ((s.at_:Int)+1)=((s.at_+1:Nat):Int):=by rw[bX om om];omega
 have ah:=CP L hL s hs
 refine iW 1 func338 ntmps338 results338 λc hc hb=>zM ?_
 by_cases q1:dh L [45] s=true
 .rw[ahg q1]at hM
  have al:=xO L hL s hs _ q1
  have ad:=hs.next hL q1
  have hy:=hP.ok 6 (zP s) ad rfl
  have ae:=hP.unary (zP s) ad rfl
  generalize rec 6 (zP s)=y at hy ae hM
  have ai:=ma L y.2 (cC L s).place [78,69,71] [y.1] sm (JQ hy.wide) (λhe=>by
   have h1:=(hy.err he).2
   simp only[wJ]
   omega)
  generalize gU (cC L s).place [78,69,71] [y.1] y.2=z at ai hM
  simp only[Ai,Bh,bJ.bS]at ai
  simp[go_sem]
  refine pR ab ?_
  simp[go_sem]
  refine pR al ?_
  simp[go_sem]
  refine wH [(4,3),(6,3)] 1 3 sm kR kR ?_
  simp[go_sem]
  refine rC ae cB fu ?_
  simp[go_sem,bJ.bS]
  refine rC ai cB (wK ⟨zC rfl,zC rfl,zK,tV⟩) ?_
  simp[go_sem,bJ.bS]
  exact wI hM.symm
 have q1:dh L [45] s=false:=sU q1
 rw[ahf (by rw[q1];decide)]at hM
 have af:=wO L hL s hs _ q1
 by_cases q2:dh L [40] s=true
 .rw[ahg q2]at hM
  have aa:=xO L hL s hs _ q2
  have ad:=hs.next hL q2
  have hy:=hP.ok 0 (zP s) ad rfl
  have ae:=hex (zP s) ad rfl
  generalize rec 0 (zP s)=y at hy ae hM
  have an:=k6 L hL y.2 hy.cz [41]
  generalize yG L [41] y.2=u at an hM
  simp[go_sem]
  refine pR ab ?_
  simp[go_sem]
  refine pR af ?_
  simp[go_sem]
  refine pR aa ?_
  simp[go_sem]
  refine jK ae cB fu ?_
  simp[go_sem,bJ.bS]
  refine pR an ?_
  simp[go_sem]
  exact wI hM.symm
 have q2:dh L [40] s=false:=sU q2
 rw[ahf (by rw[q2];decide)]at hM
 have aa:=wO L hL s hs _ q2
 simp[go_sem]
 refine pR ab ?_
 simp[go_sem]
 refine pR af ?_
 simp[go_sem]
 refine pR aa ?_
 simp[go_sem]
 by_cases q3:dh L [84,82,85,69] s=true
 .rw[ahg q3]at hM
  have hv:=G8 ⟨1,1,[]⟩
  simp only[bJ.bS,bK.row]at hv
  refine pR (xO L hL s hs _ q3) ?_
  simp[go_sem]
  refine pC hv ?_
  simp[go_sem]
  exact wI (e:=jV ⟨1,1,[]⟩) (s:=zP s) hM.symm
 have q3:dh L [84,82,85,69] s=false:=sU q3
 rw[ahf (by rw[q3];decide)]at hM
 refine pR (wO L hL s hs _ q3) ?_
 simp[go_sem]
 by_cases q4:dh L [70,65,76,83,69] s=true
 .rw[ahg q4]at hM
  have hv:=G8 ⟨1,0,[]⟩
  simp only[bJ.bS,bK.row]at hv
  refine pR (xO L hL s hs _ q4) ?_
  simp[go_sem]
  refine pC hv ?_
  simp[go_sem]
  exact wI (e:=jV ⟨1,0,[]⟩) (s:=zP s) hM.symm
 have q4:dh L [70,65,76,83,69] s=false:=sU q4
 rw[ahf (by rw[q4];decide)]at hM
 refine pR (wO L hL s hs _ q4) ?_
 simp[go_sem]
 by_cases q5:dh L oz s=true
 .rw[ahg q5]at hM
  have hv:=G8 ⟨0,0,[]⟩
  simp only[bJ.bS,bK.row]at hv
  refine pR (xO L hL s hs _ q5) ?_
  simp[go_sem]
  refine pC hv ?_
  simp[go_sem]
  exact wI (e:=jV ⟨0,0,[]⟩) (s:=zP s) hM.symm
 have q5:dh L oz s=false:=sU q5
 rw[ahf (by rw[q5];decide)]at hM
 refine pR (wO L hL s hs _ q5) ?_
 simp[go_sem]
 obtain⟨t,ht⟩:=eX (cC L s)
 rw[ht]at hM
 rw[ht]
 by_cases q6:t.kind=2
 .rw[ahg q6]at hM
  have hv:=G8 ⟨2,t.n,[]⟩
  simp only[bJ.bS,bK.row]at hv
  have aj:(t.kind==2)=true:=sU q6
  simp[go_sem,aj,rB,ei]
  refine pC hv ?_
  simp[go_sem]
  exact wI (e:=jV ⟨2,t.n,[]⟩) (s:=zP s) hM.symm
 rw[ahf q6]at hM
 have aj:(t.kind==2)=false:=sU q6
 simp[go_sem,aj]
 by_cases q7:t.kind=3
 .rw[ahg q7]at hM
  have hv:=G8 ⟨3,0,t.s⟩
  simp only[bJ.bS,bK.row]at hv
  have ak:(t.kind==3)=true:=sU q7
  simp[go_sem,ak,rB,ei]
  refine pC hv ?_
  simp[go_sem]
  exact wI (e:=jV ⟨3,0,t.s⟩) (s:=zP s) hM.symm
 rw[ahf q7]at hM
 have ak:(t.kind==3)=false:=sU q7
 simp[go_sem,ak]
 refine pR ah ?_
 simp[go_sem]
 exact zi (e:=CS (xD L s).1) (s:=(xD L s).2) hM.symm
theorem Z8 (L:List bR) (hL:eO L) (rec:Nat->RS->PR) (s:RS) (hs:dj L s) (h2:s.bZ<=200) (af:s.bZ+1<=200->PW L rec (s.bZ+1))
  (hex:s.bZ+1<=200-> ∀s',dj L s'->s'.bZ=s.bZ+1->bN prog 186 [.ptr 0 0] [rB L s'] (RR L (rec 0 s'))):
  bN prog 337 [.ptr 0 0] [rB L s] (RR L (jJ L (kh L rec 6) s)):=by
 have hr:=CQ L hL s hs om
 have aa:=uv hs h2
 have ad:=p7 (L:=L) s
 have ah:=uu (L:=L) (s:=s)
 have ho:=hs.bZ
 have hM:jJ L (kh L rec 6) s=if(yS L s).err=0 then((sO L (rec 6) (rec 0) (yS L s)).1,dE (sO L (rec 6) (rec 0) (yS L s)).2)else(cT,dE (yS L s)):=rfl
 generalize jJ L (kh L rec 6) s=M at hM⊢
 generalize yS L s=s1 at hr aa ad ah hM
 have eo:=CZ (o:=s1.bZ) om om
 refine iW 1 func337 ntmps337 results337 λc hc hb=>zM ?_
 by_cases q1:s1.err=0
 rotate_left
 .have ae:(s1.err==0)=false:=sU q1
  rw[ahf q1]at hM
  rw[ae]at hr
  simp[go_sem]
  refine pR hr ?_
  simp[go_sem,rB,eo]
  exact zi (e:=cT) (s:=dE s1) hM
 have ae:(s1.err==0)=true:=sU q1
 rw[ahg q1]at hM
 rw[ae]at hr
 have ab:=(ah q1).2
 have hP:PW L rec s1.bZ:=by rw[ad];exact af ab
 have cN:=Rs hL (hP.ok 6) (hP.ok 0) s1 aa rfl
 have ai:=Z7 L hL rec s1 aa hP (λs' h1 h2=>hex ab s' h1 (by rw[h2,ad]))
 generalize sO L (rec 6) (rec 0) s1=z at cN ai hM
 have aj:IntKind.i64.wrap (z.2.bZ - 1)=z.2.bZ - 1:=by rw[cN.bZ];exact eo
 simp[go_sem]
 refine pR hr ?_
 simp[go_sem]
 refine jK ai cB fu ?_
 simp[go_sem,rB,bJ.bS,aj]
 exact wI (s:=dE z.2) hM
theorem Rx (L:List bR) (s:RS) (x:PR) (aa:bN prog 246 [.ptr 0 0,.int .i64 0] [rB L s] (RR L x)):bN prog 186 [.ptr 0 0] [rB L s] (RR L x):=by
 refine iW 1 func186 ntmps186 results186 λc hc hb=>zM ?_
 simp[go_sem]
 refine jK aa cB (wK ⟨zC rfl,tV⟩) ?_
 simp[go_sem,bJ.bS]
 exact wI rfl
theorem Ry (L:List bR) (hL:eO L): ∀(f:Nat) (o:Int),o<=200->201<=(f:Int)+o->PW L (pF L f) o
 |0,o,h,hf=>by omega
 |f+1,o,h,hf=>by
  have ih: ∀s:RS,s.bZ=o->s.bZ+1<=200->PW L (pF L f) (s.bZ+1):=λs hs h1=>Ry L hL f (s.bZ+1) h1 (by push_cast at hf;omega)
  have aa: ∀s:RS,s.bZ=o->s.bZ+1<=200-> ∀s',dj L s'->s'.bZ=s.bZ+1->bN prog 186 [.ptr 0 0] [rB L s'] (RR L (pF L f 0 s')):=λs hs h1 s' h2 h3=>Rx L s' _ ((ih s hs h1).chain 0 (A4 _) s' h2 h3)
  refine⟨λw s hs ho=>JP hL (f+1) w s hs om (by push_cast at hf⊢;omega),λk hk s hs ho=> ?_,λs hs ho=> ?_,λs hs ho=> ?_,λs hs ho=> ?_,λs hs ho=> ?_,λs hs ho=> ?_⟩
  .have hk:k=0\/k=1:=om
   rcases hk with rfl|rfl
   .exact ZZ L hL (pF L f) s hs om (ih s ho)
   .exact Z0 L hL (pF L f) s hs om (ih s ho)
  .exact Z2 L hL (pF L f) s hs om (ih s ho)
  .exact Z6 L hL (pF L f) s hs om (ih s ho)
  .exact ZX L hL (pF L f) s hs om (ih s ho)
  .exact ZY L hL (pF L f) s hs om (ih s ho)
  .exact Z8 L hL (pF L f) s hs om (ih s ho) (aa s ho)
def iO (L:List bR) (s:RS):PR:=pF L 201 0 s
theorem M1 {L:List bR} (hL:eO L) {s:RS} (hs:dj L s) (ho:s.bZ=0):PI L s (iO L s):=JP hL 201 0 s hs om om
theorem sP (L:List bR) (hL:eO L) (s:RS) (hs:dj L s) (ho:s.bZ=0):bN prog 186 [.ptr 0 0] [rB L s] (RR L (iO L s)):=
 Rx L s _ ((Ry L hL 201 0 dC dC).chain 0 (A4 _) s hs ho)
mutual
def mb:bJ->Nat
 | .mk _ _ _ args=>mC args+1
def mC:List bJ->Nat
 | []=>0
 |e::l=>mb e+mC l
end
variable {e:bJ}{w:ahP}{o:Int}{n:Int}
theorem Fo (e:bJ):mb e=mC e.args+1:=by cases e;rfl
theorem Rz: ∀(l:List bJ) (e:bJ),e∈l->mb e<=mC l
 | [],_,h=>by grind
 |x::l,e,h=>by
  rw[mC]
  rcases Af.1 h with rfl|h
  .omega
  .have:=Rz l e h;omega
inductive Good:bJ->Prop
 |mk (e:bJ) (hk:dp e.kind) (hs:e.s.length<=1048576) (hv:e.v.ok) (hn:e.v.s.length<=1048576) (ha: ∀x∈e.args,Good x):Good e
theorem Good.str (h:Good e):e.s.length<=1048576:=by cases h;omega
theorem Good.v (h:Good e):e.v.ok:=by cases h;omega
theorem Good.sub (h:Good e): ∀x∈e.args,Good x:=by cases h;omega
theorem JR:(⟨0,0,[]⟩:bK).ok:=⟨dC,dC,dC⟩
theorem Z9 (h:0<=n/\n<=9223372036854775807):(⟨2,n,[]⟩:bK).ok:=⟨sm,by grind,sm⟩
theorem wb2 {s:ahP} (h:s.length<=1048576):(⟨3,0,s⟩:bK).ok:=⟨sm,sm,by grind[maxLen]⟩
theorem xV0 {a:List bJ} (h:w.length<=1048576) (ha: ∀x∈a,Good x):Good (p5 w a):= .mk _ (by show dp 3;decide) h JR (A4 _) ha
theorem G9 {v:bK} (h:v.ok) (h2:v.s.length<=1048576):Good (jV v):= .mk _ (by show dp 1;decide) (A4 _) h h2 (λx hx=>by cases hx)
theorem xF3 (h:w.length<=1048576):Good (CS w):= .mk _ (by show dp 2;decide) h JR (A4 _) (λx hx=>by cases hx)
theorem RA:Good cT:= .mk _ dC dC JR dC (λx hx=>by cases hx)
theorem JS {x:bJ} (h:Good x): ∀e∈ [x],Good e:=(by grind)
theorem RB {x y:bJ} (h:Good x) (h2:Good y): ∀e∈ [x,y],Good e:=(by grind)
structure gC (L:List bR):Prop where
 vP: ∀t∈L,t.s.length<=1048576
 num: ∀t∈L,0<=t.n/\t.n<=9223372036854775807
variable {L:List bR}
theorem Fp {s:RS} (hs:dj L s):cC L s∈L:=by
 unfold cC
 rw[Ae,A0 hs.at_]
 simp
theorem RC (hG:gC L) {s:RS} (hs:dj L s) (h:dh L w s):w.length<=1048576:=by
 have:=hG.vP _ (Fp hs)
 simp_all[dh]
theorem vR (hG:gC L) {s:RS} (hs:dj L s):(xD L s).1.length<=1048576:=by
 unfold xD
 split
 .exact hG.vP _ (Fp hs)
 simp
structure PJ (s:RS) (x:PR):Prop where
 dU:Good x.1
 size:x.2.err=0->mb x.1+s.at_<=x.2.at_
abbrev PK (L:List bR) (s:RS) (x:PR):Prop:=PI L s x/\PJ s x
theorem xZ7 (w:ahP) (a:List bJ):mb (p5 w a)=mC a+1:=Fo _
theorem JT (x:bJ):mC [x]=mb x:=by rfl
theorem RD (x y:bJ):mC [x,y]=mb x+mb y:=by rfl
theorem xw7 (h:e.args= []):mb e=1:=by rw[Fo,h];rfl
theorem Fq {s0 s:RS} (p:Int) {a:List bJ} (h1:w.length<=1048576) (h2: ∀x∈a,Good x) (h3:s.err=0->mC a+1+s0.at_<=s.at_):PJ s0 (gU p w a s):=
 ⟨xV0 h1 h2,λhe=>by
  have h:=MZ (p:=p) (w:=w) (a:=a) (s:=s) he
  show mb (p5 w a)+s0.at_<=(mZ p w a s).at_
  grind[CU,xZ7]⟩
theorem Ha (hL:eO L) (hG:gC L) {o:Int} {sub:RS->PR} (ab: ∀s,dj L s->s.bZ=o->PK L s (sub s)) (ws:List ahP) {s0:RS}: ∀(n:Nat) (x:PR),PK L s0 x->s0.bZ=o->PJ s0 (eQ L ws sub n x)
 |0,x,h,_=>h.2
 |n+1,x,h,ho=>by
  have aa:=Fm hL (λs h1 h2=>(ab s h1 h2).1) ws 1 x h.1 ho
  unfold eQ
  unfold eQ at aa
  split
  .grind
  rename_i ad
  rw[ahf ad]at aa
  have hi:=CV ad
  have hx:=h.1.bZ
  have hy:=ab (zP x.2) (h.1.cz.next hL hi) (by show x.2.bZ=o;omega)
  have hl:=RC hG h.1.cz hi
  have aa:PI L s0 (gU (cC L x.2).place (dY L x.2 ws) [x.1,(sub (zP x.2)).1] (sub (zP x.2)).2):=aa
  refine Ha hL hG ab ws n _ ⟨aa,Fq _ hl (RB h.2.dU hy.2.dU) (λhe=> ?_)⟩ ho
  have h1:=hy.2.size he
  have h2:=h.2.size (hy.1.err he).1
  grind[nJ,RD]
theorem wj8 (hL:eO L) (_hG:gC L) {rn rc:RS->PR} (h1: ∀s,dj L s->s.bZ=o->PK L s (rn s)) (h2: ∀s,dj L s->s.bZ=o->PK L s (rc s)) (s:RS) (hs:dj L s) (ho:s.bZ=o):PJ s (na L rn rc s):=by
 unfold na
 split
 .rename_i hi
  have hy:=h1 (zP s) (hs.next hL hi) ho
  refine Fq _ dC (JS hy.2.dU) (λhe=> ?_)
  have h:=hy.2.size he
  grind[nJ,JT]
 grind
theorem wh3 (hL:eO L) (hG:gC L) {sub:RS->PR} (aa: ∀s,dj L s->s.bZ=o->PK L s (sub s)) (s:RS) (ho:s.bZ=o) (x:PR) (h:PK L s x):PJ s (nb L sub x):=by
 have hx:=h.1.bZ
 unfold nb
 split
 .rename_i hi
  split
  .rename_i ad
   refine Fq _ dC (JS h.2.dU) (λhe=> ?_)
   have h1:=h.2.size (vQ he).1
   grind[CW,nJ,JT]
  .refine Fq _ dC (JS h.2.dU) (λhe=> ?_)
   have h1:=h.2.size (vQ he).1
   grind[CW,nJ,JT]
 .split
  .grind
  rename_i ab
  have hi:=CV ab
  have hy:=aa (zP x.2) (h.1.cz.next hL hi) (by show x.2.bZ=o;omega)
  have hl:=RC hG h.1.cz hi
  refine Fq _ hl (RB h.2.dU hy.2.dU) (λhe=> ?_)
  have h1:=hy.2.size he
  have h2:=h.2.size (hy.1.err he).1
  grind[nJ,RD]
theorem Fs {s s2:RS} (ha:e.args= []) (h:Good e) (h2:s2.err=0->s2.at_=s.at_+1):PJ s (e,s2):=⟨h,(by grind[xw7])⟩
theorem xS8 (hL:eO L) (hG:gC L) {un ex:RS->PR} (h1: ∀s,dj L s->s.bZ=o->PK L s (un s)) (h2: ∀s,dj L s->s.bZ=o->PK L s (ex s)) (s:RS) (hs:dj L s) (ho:s.bZ=o):PJ s (sO L un ex s):=by
 have hm:=Fp hs
 unfold sO
 split
 .rename_i hi
  have hy:=h1 (zP s) (hs.next hL hi) ho
  refine Fq _ dC (JS hy.2.dU) (λhe=> ?_)
  have h:=hy.2.size he
  grind[nJ,JT]
 split
 .rename_i hi
  have hy:=h2 (zP s) (hs.next hL hi) ho
  refine⟨hy.2.dU,λhe=> ?_⟩
  have h:=hy.2.size (vQ he).1
  grind[CW,nJ]
 split
 .exact Fs rfl (G9 ⟨dC,dC,dC⟩ sm) (λ_=>rfl)
 split
 .exact Fs rfl (G9 ⟨dC,dC,dC⟩ sm) (λ_=>rfl)
 split
 .exact Fs rfl (by simp[G9,JR]) (λ_=>rfl)
 split
 .exact Fs rfl (G9 (Z9 (hG.num _ hm)) sm) (λ_=>rfl)
 split
 .exact Fs rfl (G9 (wb2 (hG.vP _ hm)) (hG.vP _ hm)) (λ_=>rfl)
 .refine Fs rfl (xF3 (vR hG hs)) (λhe=> ?_)
  have hb:=(M0 he).2
  unfold xD
  rw[ahg hb]
  rfl
theorem xT1 (hL:eO L) (hG:gC L) {rec:Nat->RS->PR} (h: ∀w s,dj L s->s.bZ=o->PK L s (rec w s)): ∀(w:Nat) (s:RS),dj L s->s.bZ=o->PJ s (kh L rec w s)
 |0,s,hs,ho=>Ha hL hG (h 1) _ _ _ (by grind) ho
 |1,s,hs,ho=>Ha hL hG (h 2) _ _ _ (by grind) ho
 |2,s,hs,ho=>wj8 hL hG (h 2) (h 3) s hs ho
 |3,s,hs,ho=>wh3 hL hG (h 4) s ho _ (by grind)
 |4,s,hs,ho=>Ha hL hG (h 5) _ _ _ (by grind) ho
 |5,s,hs,ho=>Ha hL hG (h 6) _ _ _ (by grind) ho
 |_w+6,s,hs,ho=>xS8 hL hG (h 6) (h 0) s hs ho
theorem xZ2 {k:RS->PR} (s:RS) (hk:(yS L s).err=0->PJ (yS L s) (k (yS L s))):PJ s (jJ L k s):=by
 unfold jJ
 split
 .rename_i he
  have hy:=hk he
  refine⟨hy.dU,λh=> ?_⟩
  have h2:=hy.size h
  rw[JO]at h2
  exact h2
 .rename_i he
  exact⟨RA,λh=>absurd h he⟩
theorem Hb (hL:eO L) (hG:gC L): ∀(f:Nat) (w:Nat) (s:RS),dj L s->s.bZ<=200->201<=(f:Int)+s.bZ->PJ s (pF L f w s)
 |0,w,s,hs,h2,hf=>by omega
 |f+1,w,s,hs,h2,hf=>by
  unfold pF
  refine xZ2 s (λhe=> ?_)
  have h3:=(uu he).2
  exact xT1 hL hG (o:=s.bZ+1) (λw t ht ho=>⟨JP hL f w t ht om (by push_cast at hf;omega),Hb hL hG f w t ht om (by push_cast at hf;omega)⟩) w _ (uv hs h2) (p7 s)
theorem M4 {L:List bR} (hL:eO L) (hG:gC L) {s:RS} (hs:dj L s) (ho:s.bZ=0):PJ s (iO L s):=Hb hL hG 201 0 s hs om om
structure UI (L:List bR) (s s':RS):Prop where
 cz:dj L s'
 bZ:s'.bZ=s.bZ
 up:s.at_<=s'.at_
 err:s'.err=0->s.err=0
variable {L:List bR}
theorem UI.refl {s:RS} (h:dj L s):UI L s s:=⟨h,rfl,A7 _,id⟩
theorem UI.trans {s s2 s3:RS} (h:UI L s s2) (k:UI L s2 s3):UI L s s3:=⟨k.cz,k.bZ.trans h.bZ,B1 h.up k.up,λe=>h.err (k.err e)⟩
theorem PI.ui {s:RS} {x:PR} (h:PI L s x):UI L s x.2:=⟨h.cz,h.bZ,h.up,λe=>(h.err e).1⟩
theorem yK (hL:eO L) (w:ahP) {s:RS} (h:dj L s):UI L s (yG L w s):=⟨uq hL h,CX w s,CW w s,λe=>(vQ e).1⟩
theorem nf (hL:eO L) {s:RS} (h:dj L s):UI L s (xD L s).2:=⟨Rp hL h,Rr s,Rq s,λe=>(M0 e).1⟩
theorem yY (hL:eO L) {s:RS} (h:dj L s) (hi:dh L w s):UI L s (zP s):=⟨h.next hL hi,rfl,by simp[zP],id⟩
theorem RE (e p:Int) {s:RS} (h:dj L s) (he:e≠0):UI L s (ix e p s):=⟨MY h e p,G7 e p s,by rw[G6];exact A7 _,λq=>absurd q (CT he)⟩
theorem M5 (hL:eO L) {s:RS} (h:dj L s):UI L s (gN L s).2:=by
 unfold gN
 split
 .rename_i hb
  unfold sM at hb
  simp only[Ab,ahm]at hb
  exact⟨hL.next h (by rw[hb.2];decide),rfl,by simp[zP],id⟩
 .exact RE _ _ h dC
def jX (L:List bR) (n fR:Int) (b:Bool) (s:RS):RS:=if s.err=0/\fR<=n then ix (if b=true then 3 else 13) (cC L s).place s else s
theorem sQ {fR:Int} {b:Bool} {s:RS} (h:dj L s):UI L s (jX L n fR b s):=by
 unfold jX
 split
 .exact RE _ _ h (by split<;>decide)
 .exact UI.refl h
theorem uw {fR:Int} {b:Bool} {s:RS} (h:(jX L n fR b s).err=0):s.err=0/\n<fR/\jX L n fR b s=s:=by
 unfold jX at h⊢
 split at h
 .exact absurd h (CT (by split<;>decide))
 .rename_i hc
  rw[ahf hc]
  refine⟨h, ?_,rfl⟩
  by_cases q:fR<=n
  .exact absurd ⟨h,q⟩ hc
  .omega
theorem Hc (L:List bR) (hL:eO L) (s:RS) (hs:dj L s) (n fR:Int) (b:Bool):bN prog 65 [.ptr 0 0,.int .i64 n,.int .i64 fR,.bool b] [rB L s] (λr I=>r= .bool ((jX L n fR b s).err==0)/\I= [rB L (jX L n fR b s)]):=by
 have ht:=mY L hL s hs
 have ae:=zg L s 3 (cC L s).place
 have ad:=zg L s 13 (cC L s).place
 have hM:jX L n fR b s=if s.err=0/\fR<=n then(if b=true then ix 3 (cC L s).place s else ix 13 (cC L s).place s)else s:=by unfold jX;cases b<;>rfl
 generalize jX L n fR b s=M at hM⊢
 have e3:(ix 3 (cC L s).place s).err≠0:=CT dC
 have af:(ix 13 (cC L s).place s).err≠0:=CT dC
 generalize ix 3 (cC L s).place s=f3 at*
 generalize ix 13 (cC L s).place s=f13 at*
 refine iW 1 func65 ntmps65 results65 λc hc hb=>zM ?_
 simp[go_sem,rB]
 by_cases q1:s.err=0
 rotate_left
 .have aa:(s.err==0)=false:=sU q1
  rw[ahf (λh=>q1 h.1)]at hM
  simp[go_sem,aa]
  exact xL (L:=L) (s:=s) (zC rfl) ⟨by rw[hM,aa],by rw[hM];rfl⟩
 have aa:(s.err==0)=true:=sU q1
 by_cases q2:fR<=n
 rotate_left
 .have ab:decide (fR<=n)=false:=ahh q2
  rw[ahf (λh=>q2 h.2)]at hM
  simp[go_sem,aa,ab]
  exact xL (L:=L) (s:=s) (zC rfl) ⟨by rw[hM,aa],by rw[hM];rfl⟩
 have ab:decide (fR<=n)=true:=ahi q2
 rw[ahg ⟨q1,q2⟩]at hM
 simp[go_sem,aa,ab]
 refine(A6 b).elim (λq=> ?_) (λq=> ?_)
 .rw[ahg q]at hM
  have ah:(f3.err==0)=false:=sU e3
  subst q
  simp[go_sem]
  refine pR ht ?_
  simp[go_sem]
  refine pR ae ?_
  simp[go_sem,rB]
  exact xL (L:=L) (s:=f3) (zC rfl) ⟨by rw[hM],by rw[hM];rfl⟩
 .rw[ahf (by rw[q];decide)]at hM
  subst q
  simp[go_sem]
  refine pR ht ?_
  simp[go_sem]
  refine pR ad ?_
  simp[go_sem,rB]
  exact xL (L:=L) (s:=f13) (zC rfl) ⟨by rw[hM],by rw[hM];rfl⟩
def Ft:ahP:= [67,79,85,78,84]
def p8:ahP:= [83,85,77]
def M6:List ahP:= [[45],[40],[78,79,84],[84,82,85,69],[70,65,76,83,69],[78,85,76,76]]
def jA (L:List bR) (item:Bool) (s:RS):Bool:=
 ((cC L s).kind==2||((cC L s).kind==3||((cC L s).kind==1&&k5 (cC L s).s)))||((item&&(dh L Ft s||dh L p8 s))|| !(dY L s M6== []))
theorem RF (L:List bR) (hL:eO L) (s:RS) (hs:dj L s) (item:Bool):bN prog 185 [.ptr 0 0,.bool item] [rB L s] (λr I=>r= .bool (jA L item s)/\I= [rB L s]):=by
 have ht:=mY L hL s hs
 have h1:=jg L hL s hs Ft
 have h2:=jg L hL s hs p8
 have h3:=zh L hL s hs M6 dC
 have ab:=hL.vP _ (Fp hs)
 have hw:=MX (cC L s).s ab
 generalize hM:jA L item s=M
 unfold jA at hM
 generalize dh L Ft s=c1 at h1 hM
 generalize dh L p8 s=c2 at h2 hM
 generalize dY L s M6=a at h3 hM
 generalize k5 (cC L s).s=b at hw hM
 have ad:(a != [])= !a.isEmpty:=by cases a<;>rfl
 have aa:(a== [])=a.isEmpty:=by cases a<;>rfl
 rw[aa]at hM
 have ret: ∀(r:Bool) (τ:St),r=M->cw (some (.bool r)) 1 (λr I=>r= .bool M/\I= [rB L s]) (rB L s::τ):=λr τ h=>by subst h;exact xL (zC rfl) ⟨rfl,rfl⟩
 refine iW 1 func185 ntmps185 results185 λc hc hb=>zM ?_
 simp[go_sem]
 refine pR ht ?_
 simp[go_sem]
 repeat' (first
  |(refine xE (λq=> ?_) (λq=> ?_)<;>simp[go_sem,q])
  |(refine zU (λq=> ?_) (λq=> ?_)<;>simp[go_sem,q])
  |(refine pC hw ?_;simp[go_sem])
  |(refine pR h1 ?_;simp[go_sem])
  |(refine pR h2 ?_;simp[go_sem])
  |(refine pR h3 ?_;simp[go_sem]))
 all_goals exact ret _ _ (by rw[<-hM];simp_all)
variable {L:List bR}
def DA:ahP:= [87,72,69,82,69]
def oC (L:List bR) (s:RS):RS:=if dh L DA s=true then(iO L (zP s)).2 else s
def jB (e:bJ):List V:= [.int .i64 e.kind,.str e.s,.int .i64 e.v.kind,.int .i64 e.v.n,.str e.v.s,.sl .ro (e.args.map bJ.row)]
def JU (L:List bR) (s:RS) (a b:List V) (o:Ob):Ob:=if dh L DA s=true then .box (a++ [.bool true]++jB (iO L (zP s)).1++b)else o
theorem ux (hL:eO L) {s:RS} (h:dj L s) (ho:s.bZ=0):UI L s (iO L s).2:=(M1 hL h ho).ui
theorem Fu (hL:eO L) {s:RS} (h:dj L s) (ho:s.bZ=0):UI L s (oC L s):=by
 unfold oC
 split
 .rename_i hi
  exact(yY hL h hi).trans (ux hL (h.next hL hi) ho)
 .exact UI.refl h
theorem wc6 (L:List bR) (hL:eO L) (s:RS) (hs:dj L s) (ho:s.bZ=0) (τ:St) (j:Nat) (c0 c1 c2 c3 c4 c5 c6 c7 c8 c9 af ah ab ad ae:V) (hj:τ[j]? =some (.box [c0,c1,c2,c3,c4,c5,c6,c7,c8,c9,af,ah,ab,ad,ae])):
  bN prog 122 [.ptr 0 0,.ptr (j+1) 0] (rB L s::τ) (λr I=>r= .cy []/\I=rB L (oC L s)::τ.set j (JU L s [c0,c1,c2,c3,c4] [ab,ad,ae] (.box [c0,c1,c2,c3,c4,c5,c6,c7,c8,c9,af,ah,ab,ad,ae]))):=by
 have ak:=(A3.1 hj).1
 have ai:=(A3.1 hj).2
 unfold oC JU
 refine bN.intro (τ.length+1) func122 ntmps122 results122 rfl rfl (C5 rfl) λc hc hb=>zM ?_
 by_cases q:dh L DA s=true
 .rw[ahg q,ahg q]
  have aa:=xO L hL s hs _ q
  have aj:=sP L hL (zP s) (hs.next hL q) ho
  generalize iO L (zP s)=y at aj⊢
  simp[go_sem]
  refine pR aa ?_
  simp[go_sem]
  refine jK aj cB fu ?_
  simp[go_sem,bJ.bS,ai,ak]
  refine GI ?_ ⟨rfl, ?_⟩
  .simp
  .simp[go_sem,jB]
 .have q:dh L DA s=false:=sU q
  have aa:=wO L hL s hs _ q
  rw[ahf (by rw[q];decide),ahf (by rw[q];decide)]
  simp[go_sem]
  refine pR aa ?_
  simp[go_sem]
  refine GI sm ⟨rfl, ?_⟩
  rw[<-ai,List.set_getElem_self]
def oD (L:List bR) (s:RS):cM×RS:=
 if dh L Ft s=true then(⟨3,cT⟩,yG L [41] (yG L [42] (yG L [40] (zP s))))
 else if dh L p8 s=true then(⟨4,(iO L (yG L [40] (zP s))).1⟩,yG L [41] (iO L (yG L [40] (zP s))).2)
 else(⟨2,(iO L s).1⟩,(iO L s).2)
def sR (L:List bR):Nat->List cM->RS->List cM×RS
 |0,l,s=>(l,s)
 |n+1,l,s=>
  if(jX L l.length 6 (jA L true s) s).err=0 then
   (if dh L [44] (oD L s).2=true then sR L n (l++ [(oD L s).1]) (zP (oD L s).2)else(l++ [(oD L s).1],(oD L s).2))
  else(l,jX L l.length 6 (jA L true s) s)
def p9 (L:List bR) (s:RS):List cM×RS:=if dh L [42] s=true then([⟨1,cT⟩],zP s)else sR L 7 [] s
theorem M7 (hL:eO L) {s:RS} (h:dj L s) (ho:s.bZ=0):UI L s (oD L s).2:=by
 unfold oD
 split
 .rename_i hi
  have h1:=yY hL h hi
  have h2:=h1.trans (yK hL [40] h1.cz)
  have h3:=h2.trans (yK hL [42] h2.cz)
  exact h3.trans (yK hL [41] h3.cz)
 split
 .rename_i hi
  have h1:=yY hL h hi
  have h2:=h1.trans (yK hL [40] h1.cz)
  have h3:=h2.trans (ux hL h2.cz (h2.bZ.trans ho))
  exact h3.trans (yK hL [41] h3.cz)
 .exact ux hL h ho
theorem xs4 {τ:St} {l:List cM} {s:RS} {g:Tag} {M:List cM×RS} (h:(l,s)=M):cw (some (.sl g (l.map cM.row))) 1 (λr I=>r= .sl .ro (M.1.map cM.row)/\I= [rB L M.2]) (rB L s::τ):=by
 subst h
 exact xL zK ⟨rfl,rfl⟩
theorem xV8 (L:List bR) (hL:eO L) (s0:RS) (an:dj L s0) (ax:s0.bZ=0):bN prog 184 [.ptr 0 0] [rB L s0] (λr I=>r= .sl .ro ((p9 L s0).1.map cM.row)/\I= [rB L (p9 L s0).2]):=by
 generalize hM:p9 L s0=M
 unfold p9 at hM
 refine iV 1 func184 ntmps184 results184 λc hc hb=> ?_
 refine zA ?_
 simp[go_sem]
 by_cases q0:dh L [42] s0=true
 .rw[ahg q0]at hM
  refine pR (xO L hL s0 an _ q0) ?_
  simp[go_sem]
  refine xL (r:= .sl .ro ([(⟨1,cT⟩:cM)].map cM.row)) ?_ ⟨by rw[<-hM],by rw[<-hM]⟩
  exact zK
 have q0:dh L [42] s0=false:=sU q0
 rw[ahf (by rw[q0];decide)]at hM
 refine pR (wO L hL s0 an _ q0) ?_
 simp[go_sem]
 refine lE 3 7 dC sg ?_
 refine zI (S:=List cM×RS) [0,3] (λu=> [.ptr 0 0,.sl (.app 1) (u.1.map cM.row)]) (λu=> [rB L u.2,.app u.1.length 7]) (λu=>7 - u.1.length) (λu=>u.1.length<=6/\UI L s0 u.2/\sR L (7 - u.1.length) u.1 u.2=M) hc hb ([],s0) ⟨A4 _,UI.refl an,hM⟩ ?_ ?_
 .exact aN 2 (by simp[rB,bT,cQ,cL])
 rintro⟨l,s⟩ ⟨hl,hu,hinv⟩
 simp only at hl hu hinv
 have hs:=hu.cz
 have ho:=hu.bZ.trans ax
 have ae:=RF L hL s hs true
 have ab:=Hc L hL s hs l.length 6 (jA L true s)
 have ao:=uw (L:=L) (n:=l.length) (fR:=6) (b:=jA L true s) (s:=s)
 rw[show 7 - l.length=(6 - l.length)+1 by omega,sR]at hinv
 generalize jA L true s=bg at ae ab ao hinv
 generalize jX L l.length 6 bg s=m at ab ao hinv
 by_cases q:m.err=0
 rotate_left
 .have q':(m.err==0)=false:=sU q
  rw[ahf q]at hinv
  rw[q']at ab
  refine zA ?_
  simp[go_sem]
  refine pR ae ?_
  simp[go_sem]
  refine pR ab ?_
  simp[go_sem]
  exact xs4 hinv
 have q':(m.err==0)=true:=sU q
 obtain⟨he,ay,rfl⟩:=ao q
 rw[ahg q]at hinv
 rw[q']at ab
 have al:=M7 hL hs ho
 have ad:=hu.trans al
 generalize hit:oD L m=it at hinv al ad
 unfold oD at hit
 have aa: ∀b,dh L [44] it.2=b->bN prog 67 [.ptr 0 0,.str [44]] [rB L it.2] (λr I=>r= .bool b/\I= [rB L (if b=true then zP it.2 else it.2)]):=λb hb=>by
  cases b with
  |true=>exact xO L hL it.2 ad.cz _ hb
  |false=>exact wO L hL it.2 ad.cz _ hb
 by_cases q1:dh L Ft m=true
 .rw[ahg q1]at hit
  have ai:=hs.next hL q1
  have aj:=k6 L hL _ ai [40]
  have af:=uq hL (w:= [40]) ai
  generalize yG L [40] (zP m)=u1 at aj af hit
  have aq:=k6 L hL _ af [42]
  have ar:=uq hL (w:= [42]) af
  generalize yG L [42] u1=u2 at aq ar hit
  have ak:=k6 L hL _ ar [41]
  generalize yG L [41] u2=u3 at ak hit
  subst hit
  simp only at hinv ad aa
  refine zA ?_
  simp[go_sem]
  refine pR ae ?_
  simp[go_sem]
  refine pR ab ?_
  simp[go_sem]
  refine pR (xO L hL m hs _ q1) ?_
  simp[go_sem]
  refine pR aj ?_
  simp[go_sem]
  refine pR aq ?_
  simp[go_sem]
  refine pR ak ?_
  simp[go_sem]
  refine zJ ⟨om,zY rfl⟩ ?_
  simp[go_sem]
  refine(A6 (dh L [44] u3)).elim (λq2=> ?_) (λq2=> ?_)
  .rw[ahg q2]at hinv
   refine pR (aa true q2) ?_
   simp[go_sem]
   refine zH (l++ [⟨3,cT⟩],zP u3) ⟨by simp;omega,⟨by simp;omega,ad.trans (yY hL ad.cz q2),by simp only[Ap,Br,show 7 - (l.length+1)=6 - l.length by omega];exact hinv⟩, ?_⟩
   exact aM 2 (by simp[rB,bT,cQ,cL]) (zD (by simp[go_sem]<;>exact⟨rfl,rfl,rfl,rfl,rfl,rfl⟩) rfl)
  .rw[ahf (by rw[q2];decide)]at hinv
   refine pR (aa false q2) ?_
   simp[go_sem]
   exact xL (L:=L) zK ⟨by rw[<-hinv];simp[cM.row]<;>exact⟨rfl,rfl,rfl,rfl,rfl,rfl⟩,by rw[<-hinv]⟩
 have q1:dh L Ft m=false:=sU q1
 rw[ahf (by rw[q1];decide)]at hit
 by_cases ah:dh L p8 m=true
 .rw[ahg ah]at hit
  have ai:=hs.next hL ah
  have aj:=k6 L hL _ ai [40]
  have af:=uq hL (w:= [40]) ai
  have au:=CX (L:=L) [40] (zP m)
  generalize yG L [40] (zP m)=u1 at aj af au hit
  have av:u1.bZ=0:=by rw[au];exact ho
  have hx:=sP L hL u1 af av
  have aw:=(M1 hL af av).cz
  generalize iO L u1=x at hx aw hit
  have ak:=k6 L hL _ aw [41]
  generalize yG L [41] x.2=u3 at ak hit
  subst hit
  simp only at hinv ad aa
  refine zA ?_
  simp[go_sem]
  refine pR ae ?_
  simp[go_sem]
  refine pR ab ?_
  simp[go_sem]
  refine pR (wO L hL m hs _ q1) ?_
  simp[go_sem]
  refine pR (xO L hL m hs _ ah) ?_
  simp[go_sem]
  refine pR aj ?_
  simp[go_sem]
  refine jK hx cB fu ?_
  simp[go_sem,bJ.bS]
  refine pR ak ?_
  simp[go_sem]
  refine zJ ⟨om,zY rfl⟩ ?_
  simp[go_sem]
  refine(A6 (dh L [44] u3)).elim (λq2=> ?_) (λq2=> ?_)
  .rw[ahg q2]at hinv
   refine pR (aa true q2) ?_
   simp[go_sem]
   refine zH (l++ [⟨4,x.1⟩],zP u3) ⟨by simp;omega,⟨by simp;omega,ad.trans (yY hL ad.cz q2),by simp only[Ap,Br,show 7 - (l.length+1)=6 - l.length by omega];exact hinv⟩, ?_⟩
   exact aM 2 (by simp[rB,bT,cQ,cL]) (zD (by simp[go_sem]<;>exact⟨rfl,rfl,rfl,rfl,rfl,rfl⟩) rfl)
  .rw[ahf (by rw[q2];decide)]at hinv
   refine pR (aa false q2) ?_
   simp[go_sem]
   exact xL (L:=L) zK ⟨by rw[<-hinv];simp[cM.row]<;>exact⟨rfl,rfl,rfl,rfl,rfl,rfl⟩,by rw[<-hinv]⟩
 have ah:dh L p8 m=false:=sU ah
 rw[ahf (by rw[ah];decide)]at hit
 .have hx:=sP L hL m hs ho
  generalize iO L m=x at hx hit
  subst hit
  simp only at hinv ad aa
  refine zA ?_
  simp[go_sem]
  refine pR ae ?_
  simp[go_sem]
  refine pR ab ?_
  simp[go_sem]
  refine pR (wO L hL m hs _ q1) ?_
  simp[go_sem]
  refine pR (wO L hL m hs _ ah) ?_
  simp[go_sem]
  refine jK hx cB fu ?_
  simp[go_sem,bJ.bS]
  refine zJ ⟨om,zY rfl⟩ ?_
  simp[go_sem]
  refine(A6 (dh L [44] x.2)).elim (λq2=> ?_) (λq2=> ?_)
  .rw[ahg q2]at hinv
   refine pR (aa true q2) ?_
   simp[go_sem]
   refine zH (l++ [⟨2,x.1⟩],zP x.2) ⟨by simp;omega,⟨by simp;omega,ad.trans (yY hL ad.cz q2),by simp only[Ap,Br,show 7 - (l.length+1)=6 - l.length by omega];exact hinv⟩, ?_⟩
   exact aM 2 (by simp[rB,bT,cQ,cL]) (zD (by simp[go_sem]<;>exact⟨rfl,rfl,rfl,rfl,rfl,rfl⟩) rfl)
  .rw[ahf (by rw[q2];decide)]at hinv
   refine pR (aa false q2) ?_
   simp[go_sem]
   exact xL (L:=L) zK ⟨by rw[<-hinv];simp[cM.row]<;>exact⟨rfl,rfl,rfl,rfl,rfl,rfl⟩,by rw[<-hinv]⟩
end Go.Proofs.YtplackkccmeioaaGreat
