/-
  The document's reader of statements: what a SELECT tells, and WHERE, over trees (the library Vx); used by the theorem at the end of the claim.
  Conditions: as each theorem states them.
-/
import Derived.Test.YtplackkccmeioaaGreatKCAE
set_option maxHeartbeats 8000000
namespace Go.Proofs.YtplackkccmeioaaGreat
open Go Go.Vx Go.Proofs.Tryz
set_option maxRecDepth 100000
variable {τ:St}{P:Program}{c:Ctx}{f:FuncId}{bY:List V}{cd:List V}{KV:V->St->Prop}
def Kl (s:aiZ):aiZ:=if s= [60]then [62]else if s= [60,61]then [62,61]else if s= [62]then [60]else if s= [62,61]then [60,61]else s
theorem xR8 (s:aiZ):Pure prog 238 [.str s] (.str (Kl s)):=by
 generalize hM:Kl s=M
 have ret: ∀(r:aiZ) (I:St),r=M->cx (some (.str r)) 0 (λr s=>r= .str M/\s= []) I:=λr I h=>by subst h;exact wR
 unfold Kl at hM
 refine iW 0 func238 ntmps238 results238 λc hc hb=>zM ?_
 simp[go_sem]
 repeat' (first|(refine xD (λq=> ?_) (λq=> ?_)<;>simp[go_sem,q])|(refine zV (λq=> ?_) (λq=> ?_)<;>simp[go_sem,q]))
 all_goals exact ret _ _ (by simp_all)
def kL:List aiZ:= [[79,82],[65,78,68],[61],[60,62],[60],[60,61],[62],[62,61],[43],[45],[42],[47],[37]]
def mB:List aiZ:= [[78,79,84],[73,83,78,85,76,76],[78,79,84,78,85,76,76],[78,69,71]]
def tq (s:aiZ):Int:=if kL.contains s=true then 2 else if mB.contains s=true then 1 else 0
def uO (b:Bool):bK:=⟨1,if b then 1 else 0,[]⟩
theorem FY (b:Bool):Pure prog 217 [.bool b] (.agg (uO b).row):=by
 refine iW 0 func217 ntmps217 results217 λc hc hb=>zM ?_
 simp[go_sem]
 cases b<;>simp[go_sem]<;>exact wR
theorem Km (v:bK):Pure prog 305 [.agg v.row] (.bool (v.kind==0)):=by
 refine iW 0 func305 ntmps305 results305 λc hc hb=>zM ?_
 simp[go_sem]
 exact wR
def wv (many NM:Bool) (k:Int):Int×Int:=if many=false then(0,9)else if NM=false then(0,15)else(k,0)
def wI (r:Int×Int):V:= .cy [.int .i64 r.1,.int .i64 r.2]
theorem wY {r:Int×Int} {a e:Int} {I:St} (h:r=(a,e)):cx (some (.cy [.int .i64 a,.int .i64 e])) 0 (λv s=>v=wI r/\s= []) I:=by
 subst h
 exact wR
theorem Kn (many aa:Bool) (k:Int):Pure prog 295 [.bool many,.bool aa,.int .i64 k] (wI (wv many aa k)):=by
 refine iW 0 func295 ntmps295 results295 λc hc hb=>zM ?_
 cases many<;>cases aa<;>simp[go_sem]<;>exact wY rfl
def iz (l:aj2) (k:Int):Bool:=l.all λx=>x==k||x==0
theorem Ko (l:aj2) (k:Int) (hl:l.length<=maxLen):Pure prog 296 [.sl .ro (l.map λn=> [V.int .i64 n]),.int .i64 k] (.bool (iz l k)):=by
 generalize hM:iz l k=M
 have ret: ∀(r:Bool) (I:St),r=M->cx (some (.bool r)) 0 (λr s=>r= .bool M/\s= []) I:=λr I h=>by subst h;exact wR
 unfold iz at hM
 refine iV 0 func296 ntmps296 results296 λc hc hb=> ?_
 refine zA ?_
 simp[go_sem]
 refine zH (S:=Nat) [1,7,8,9] (λi=> [.int .i64 k,.sl .ro (l.map λn=> [V.int .i64 n]),.int .i64 l.length,.int .i64 i]) (λ_=> []) (λi=>l.length - i) (λi=>i<=l.length/\((l.drop i).all λx=>x==k||x==0)=M) hc hb 0 ⟨A3 _,hM⟩ ?_ ?_
 .exact aO
 rintro i ⟨hi,hinv⟩
 by_cases q:i<l.length
 rotate_left
 .have e:l.drop i= []:=A9 om
  rw[e]at hinv
  refine zA ?_
  simp[go_sem,q]
  exact ret _ _ hinv
 have ei:=zQ q (by unfold maxLen at hl;omega)
 obtain⟨r,hr⟩:=eX (l[i])
 rw[A5 q,Bl,hr]at hinv
 refine zA ?_
 simp[go_sem,q,hr]
 by_cases w1:r=k
 .simp[go_sem,w1,ei]
  rw[w1,beq_self_eq_true,Di,B7]at hinv
  exact zI (i+1) ⟨om,⟨q,hinv⟩,aO⟩
 have aa:(r !=k)=true:=sU w1
 by_cases w2:r=0
 .have w3:(r !=0)=false:=by simp[w2]
  simp[go_sem,aa,w3,ei]
  rw[w2,beq_self_eq_true,aiY,B7]at hinv
  exact zI (i+1) ⟨om,⟨q,hinv⟩,aO⟩
 have ab:(r !=0)=true:=sU w2
 simp[go_sem,aa,ab]
 exact ret _ _ (by rw[<-hinv,show(r==k)=false by simpa using w1,show(r==0)=false by simpa using w2];rfl)
def oZ (s:aiZ) (l:aj2):Int×Int:=
 if s= [73,83,78,85,76,76]\/s= [78,79,84,78,85,76,76]then wv ((l.length:Int)==1) true 1
 else if s= [78,79,84]then wv ((l.length:Int)==1) (iz l 1) 1
 else if s= [78,69,71]then wv ((l.length:Int)==1) (iz l 2) 2
 else if s= [79,82]\/s= [65,78,68]then wv ((l.length:Int)==2) (iz l 1) 1
 else if s= [43]\/s= [45]\/s= [42]\/s= [47]\/s= [37]then wv ((l.length:Int)==2) (iz l 2) 2
 else if s= [61]\/s= [60,62]\/s= [60]\/s= [60,61]\/s= [62]\/s= [62,61]then
  wv ((l.length:Int)==2) ((l.length:Int)==2&&(l.getD 0 0==l.getD 1 0||(l.getD 0 0==0||l.getD 1 0==0))) 1
 else(0,9)
theorem yP5 (s:aiZ) (x y:Int):Pure prog 253 [.str s,.sl .ro [[.int .i64 x],[.int .i64 y]]] (wI (oZ s [x,y])):=by
 generalize hM:oZ s [x,y]=M
 have ret: ∀(r:Int×Int) (I:St),r=M->cx (some (.cy [.int .i64 r.1,.int .i64 r.2])) 0 (λr s=>r=wI M/\s= []) I:=λr I h=>by subst h;exact zW (zC rfl) (by trivial)
 unfold oZ at hM
 have h1:=Ko [x,y] 1 (by unfold maxLen;simp)
 have h2:=Ko [x,y] 2 (by unfold maxLen;simp)
 simp only[Aj,Bq]at h1 h2
 generalize iz [x,y] 1=a1 at h1 hM
 generalize iz [x,y] 2=a2 at h2 hM
 simp only[List.getD_cons_zero,List.getD_cons_succ]at hM
 refine iW 0 func253 ntmps253 results253 λc hc hb=>zM ?_
 simp[go_sem]
 repeat' (first
  |(refine zV (λq=> ?_) (λq=> ?_)<;>simp[go_sem,q])
  |(refine xD (λq=> ?_) (λq=> ?_)<;>simp[go_sem,q])
  |(refine yE [(23,0)] 0 rfl kR kR ?_;simp[go_sem])
  |(refine pC h1 ?_;simp[go_sem])
  |(refine pC h2 ?_;simp[go_sem])
  |(refine pC (Kn _ _ _) ?_;simp[go_sem,wI])
  |(refine pD (Kn _ _ _) ?_;simp[go_sem,wI]))
 all_goals first|exact ret _ _ (by simp_all)|exact ret (0,9) _ (by simp_all)
theorem yP6 (s:aiZ) (l:aj2) (hl:l.length<=maxLen) (hn:((l.length:Int)==2)=false):Pure prog 253 [.str s,.sl .ro (l.map λn=> [V.int .i64 n])] (wI (oZ s l)):=by
 generalize hM:oZ s l=M
 have ret: ∀(r:Int×Int) (I:St),r=M->cx (some (.cy [.int .i64 r.1,.int .i64 r.2])) 0 (λr s=>r=wI M/\s= []) I:=λr I h=>by subst h;exact zW (zC rfl) (by trivial)
 unfold oZ at hM
 have h1:=Ko l 1 hl
 have h2:=Ko l 2 hl
 generalize iz l 1=a1 at h1 hM
 generalize iz l 2=a2 at h2 hM
 simp only[hn,Ds]at hM
 refine iW 0 func253 ntmps253 results253 λc hc hb=>zM ?_
 simp[go_sem]
 repeat' (first
  |(refine zV (λq=> ?_) (λq=> ?_)<;>simp[go_sem,q,hn])
  |(refine yE [(23,0)] 0 rfl kR kR ?_;simp[go_sem])
  |(refine pC h1 ?_;simp[go_sem])
  |(refine pC h2 ?_;simp[go_sem])
  |(refine pC (Kn _ _ _) ?_;simp[go_sem,wI])
  |(refine pD (Kn _ _ _) ?_;simp[go_sem,wI]))
 all_goals first|exact ret _ _ (by simp_all)|exact ret (0,9) _ (by simp_all)
theorem xc1 (s:aiZ) (l:aj2) (hl:l.length<=maxLen):Pure prog 253 [.str s,.sl .ro (l.map λn=> [V.int .i64 n])] (wI (oZ s l)):=by
 by_cases h:l.length=2
 .match l,h with
  | [x,y],_=>grind[yP5]
 grind[yP6]
theorem wP {ρ:Nat->Nat} {g:Tag} {rows ep:List (List V)} (h:ep=rows):cT ρ (.sl .ro ep) (.sl g rows):=by subst h;exact zK
theorem Kq {n:Int} (h:0<=n) (h2:n<=255):IntKind.u8.wrap n=n:=by
 unfold IntKind.wrap
 simp[IntKind.bits,IntKind.signed]
 omega
def yP (c:UInt8):UInt8:=if 97<=c.toNat/\c.toNat<=122 then UInt8.ofNat (c.toNat - 32)else c
def jO (c:UInt8):Bool:=decide (48<=c.toNat/\c.toNat<=57)
def mC (c:UInt8):Bool:=decide (65<=(yP c).toNat/\(yP c).toNat<=90)||decide (c.toNat=95)
theorem NN (c:UInt8):Pure prog 181 [.int .u8 c.toNat] (.int .u8 (yP c).toNat):=by
 have hc:=c.toNat_lt
 have ret: ∀(r:Int) (I:St),r=((yP c).toNat:Int)->cx (some (.int .u8 r)) 0 (λr s=>r= .int .u8 (yP c).toNat/\s= []) I:=λr I h=>by subst h;exact wR
 unfold yP at ret⊢
 obtain⟨n,hn⟩:=eX c.toNat
 have aa:n<=255->(UInt8.ofNat (n - 32)).toNat=n - 32:=λh=>by
  rw[UInt8.toNat_ofNat'];exact Cw om
 rw[hn]at hc ret⊢
 refine iW 0 func181 ntmps181 results181 λc hc hb=>zM ?_
 simp[go_sem]
 refine xD (λq=> ?_) (λq=> ?_)
 .have q1:97<=n:=by simp at q;omega
  simp[go_sem,q]
  refine zV (λq2=> ?_) (λq2=> ?_)
  .have q2:n<=122:=by simp at q2;omega
   have e1:IntKind.u8.wrap ((n:Int) - 97)=(n:Int) - 97:=Kq om om
   have e2:IntKind.u8.wrap ((n:Int) - 97+65)=(n:Int) - 97+65:=Kq om om
   simp[go_sem,e1,e2]
   exact ret _ _ (by rw[aiv ⟨q1,q2⟩,aa om];omega)
  .have q2: ¬n<=122:=by simp at q2;omega
   simp[go_sem]
   exact ret _ _ (by rw[aiu (λh=>q2 h.2),hn])
 .have q1: ¬97<=n:=by simp at q;omega
  simp[go_sem,q]
  exact ret _ _ (by rw[aiu (λh=>q1 h.1),hn])
theorem HK (c:UInt8):Pure prog 180 [.int .u8 c.toNat] (.bool (jO c)):=by
 unfold jO
 generalize c.toNat=n
 generalize hM:decide (48<=n/\n<=57)=M
 have ret: ∀(r:Bool) (I:St),r=M->cx (some (.bool r)) 0 (λr s=>r= .bool M/\s= []) I:=λr I h=>by subst h;exact wR
 refine iW 0 func180 ntmps180 results180 λc hc hb=>zM ?_
 simp[go_sem]
 refine xD (λq=> ?_) (λq=> ?_)
 .simp[go_sem,q]
  refine ret _ _ ?_
  rw[<-hM]
  simp at q
  exact decide_eq_decide.2 om
 .simp[go_sem,q]
  refine ret _ _ ?_
  rw[<-hM]
  simp at q
  exact(aiw om).symm
theorem Kr (c:UInt8):Pure prog 179 [.int .u8 c.toNat] (.bool (mC c)):=by
 have hg:=NN c
 unfold mC
 revert hg
 generalize (yP c).toNat=g
 generalize c.toNat=n
 generalize hM:(decide (65<=g/\g<=90)||decide (n=95))=M
 have ret: ∀(r:Bool) (I:St),r=M->cx (some (.bool r)) 0 (λr s=>r= .bool M/\s= []) I:=λr I h=>by subst h;exact wR
 have aa: ∀(a:Nat) (b:Bool),((a:Int)==95)=b->decide (a=95)=b:=λa b h=>by
  rw[<-h]
  by_cases q:a=95
  .subst q;rfl
  .rw[aiw q]
   exact(beq_eq_false_iff_ne.2 om).symm
 intro hg
 refine iW 0 func179 ntmps179 results179 λc hc hb=>zM ?_
 simp[go_sem]
 refine pC hg ?_
 simp[go_sem]
 refine xD (λq=> ?_) (λq=> ?_)
 .simp[go_sem,q]
  refine pC hg ?_
  simp[go_sem]
  simp at q
  refine xD (λq2=> ?_) (λq2=> ?_)
  .have q3: ¬g<=90:=by simp at q2;omega
   simp[go_sem,q2]
   exact ret _ _ (by rw[<-hM,aiw (λh=>q3 h.2),C5];exact(aa n _ rfl).symm)
  .have q3:g<=90:=by simp at q2;omega
   simp[go_sem,q2]
   exact ret _ _ (by rw[<-hM,aix ⟨om,q3⟩];rfl)
 .have q3: ¬65<=g:=by simp at q;omega
  simp[go_sem,q]
  exact ret _ _ (by rw[<-hM,aiw (λh=>q3 h.1),C5];exact(aa n _ rfl).symm)
def jv:List aiZ:= [[65,76,76],[65,78,68],[65,83],[65,83,67],[66,69,84,87,69,69,78],[66,79,85,78,68],[66,89],[67,79,85,78,84],[68,69,76,69,84,69],[68,69,83,67],[69,88,65,67,84],[70,65,76,83,69],[70,82,79,77],[73,78,83,69,82,84],[73,78,84,79],[73,83],[76,73,77,73,84],[78,79,84],[78,85,76,76],[78,79,87],[79,70],[79,82],[79,82,68,69,82],[83,69,76,69,67,84],[83,69,84],[83,85,77],[83,89,83,84,69,77],[84,73,77,69],[84,82,85,69],[85,80,68,65,84,69],[86,65,76,85,69,83],[87,72,69,82,69]]
theorem Ks:jv.length=32:=rfl
theorem yX3:Pure prog 247 [] (.sl .ro (jv.map λs=> [.str s])):=by
 refine iW 0 func247 ntmps247 results247 λc hc hb=>zM ?_
 simp[go_sem]
 exact zW (wP (by simp[jv])) ⟨rfl,rfl⟩
def uP (c:UInt8):Bool:=(mC c||jO c)&&(yP c==c)
def lu (s:aiZ):Bool:=decide (1<=s.length/\s.length<=16)&&(!jO (s.headD 0)&&(s.all uP&& !jv.contains s))
theorem NO (s:aiZ) (hl:s.length<=maxLen):Pure prog 187 [.str s] (.bool (lu s)):=by
 generalize hM:lu s=M
 unfold lu at hM
 have ret: ∀(r:Bool) (I:St),r=M->cx (some (.bool r)) 0 (λr s=>r= .bool M/\s= []) I:=λr I h=>by subst h;exact wR
 refine iV 0 func187 ntmps187 results187 λc hc hb=> ?_
 refine zA ?_
 simp[go_sem]
 by_cases h0:s.length=0
 .have ae:((s.length:Int)==0)=true:=sU h0
  simp[go_sem,ae]
  exact ret _ _ (by rw[<-hM,aiw om];rfl)
 have ae:((s.length:Int)==0)=false:=sU h0
 simp[go_sem,ae]
 by_cases ah:s.length<=16
 rotate_left
 .have ad:decide (16<(s.length:Int))=true:=by simp;omega
  simp[go_sem,ad]
  exact ret _ _ (by rw[<-hM,aiw om];rfl)
 have ad:decide (16<(s.length:Int))=false:=by simp;omega
 rw[aix ⟨om,ah⟩,B7]at hM
 have hp:0<s.length:=om
 obtain⟨c0,af⟩: ∃c,s[0]=c:=⟨_,rfl⟩
 have ai:s.headD 0=c0:=by
  rw[<-af]
  cases s with
  |nil=>simp at hp
  |cons x l=>rfl
 rw[ai]at hM
 simp[go_sem,ad,hp,af]
 try (refine zJ om ?_;simp[go_sem])
 refine pC (HK c0) ?_
 simp[go_sem]
 refine zV (λhd=> ?_) (λhd=> ?_)
 .simp[go_sem]
  exact ret _ _ (by rw[<-hM,hd];rfl)
 rw[hd,Bool.not_false,B7]at hM
 simp[go_sem]
 refine zH (S:=Nat) [0,3] (λi=> [.str s,.int .i64 i]) (λ_=> []) (λi=>s.length - i) (λi=>i<=s.length/\(s.drop i).all uP=s.all uP) hc hb 0 ⟨A3 _,rfl⟩ ?_ ?_
 .exact aO
 rintro i ⟨hi,hinv⟩
 refine zA ?_
 simp[go_sem]
 refine zV (λq=> ?_) (λq=> ?_)
 .have q:i<s.length:=sU q
  have ei:=zQ q om
  obtain⟨c1,aa⟩: ∃c,s[i]=c:=⟨_,rfl⟩
  rw[A5 q,Bl,aa]at hinv
  have cQ:uP c1=((mC c1||jO c1)&&(yP c1==c1)):=rfl
  have g1:=Kr c1
  have g2:=HK c1
  have g3:=NN c1
  have ab:(((yP c1).toNat:Int) !=(c1.toNat:Int))= !(yP c1==c1):=by
   by_cases h:yP c1=c1
   .rw[h];simp
   .have: ¬(yP c1).toNat=c1.toNat:=λw=>h (E6.1 w)
    rw[beq_eq_false_iff_ne.2 h]
    simp
    omega
  revert cQ g1 g2 g3 ab
  generalize mC c1=bl
  generalize jO c1=bd
  generalize aj:(yP c1==c1)=bg
  generalize yP c1=cg
  intro cQ g1 g2 g3 ab
  have bad: ∀(b:Bool) (I:St),uP c1=false->cx (some (.bool false)) 0 (λr s=>r= .bool M/\s= []) I:=λb I h=>ret _ _ (by rw[<-hM,<-hinv,h];rfl)
  have dS:uP c1=true->(s.drop (i+1)).all uP=s.all uP:=λh=>by rw[<-hinv,h,B7]
  simp[go_sem]
  refine yE [(3,0),(9,0),(16,0)] 0 rfl kR kR ?_
  simp[go_sem,q,aa]
  refine pD g1 ?_
  simp[go_sem]
  refine(A6 bl).elim (λw=> ?_) (λw=> ?_)
  .simp[go_sem,w,q,aa]
   refine pD g3 ?_
   simp[go_sem,q,aa]
   refine zV (λw3=> ?_) (λw3=> ?_)
   .simp[go_sem]
    exact bad true _ (by rw[cQ,w];rw[ab]at w3;simpa using w3)
   .simp[go_sem,ei]
    exact zI (i+1) ⟨om,⟨q,dS (by rw[cQ,w];rw[ab]at w3;simpa using w3)⟩,aO⟩
  .simp[go_sem,w,q,aa]
   refine pD g2 ?_
   simp[go_sem]
   refine(A6 bd).elim (λw2=> ?_) (λw2=> ?_)
   .simp[go_sem,w2,q,aa]
    refine pD g3 ?_
    simp[go_sem,q,aa]
    refine zV (λw3=> ?_) (λw3=> ?_)
    .simp[go_sem]
     exact bad true _ (by rw[cQ,w,w2];rw[ab]at w3;simpa using w3)
    .simp[go_sem,ei]
     exact zI (i+1) ⟨om,⟨q,dS (by rw[cQ,w,w2];rw[ab]at w3;simpa using w3)⟩,aO⟩
   .simp[go_sem,w2]
    exact bad true _ (by rw[cQ,w,w2];rfl)
 .have q:i=s.length:=by
   have: ¬i<s.length:=sU q
   omega
  subst q
  rw[Cj,D4]at hinv
  rw[<-hinv,B7]at hM
  simp[go_sem]
  refine pC yX3 ?_
  simp[go_sem]
  refine zH (S:=Nat) [0,4,5] (λi=> [.str s,.sl .ro (jv.map λs=> [.str s]),.int .i64 i]) (λ_=> []) (λi=>32 - i) (λi=>i<=32/\(jv.drop i).contains s=jv.contains s) hc hb 0 ⟨A3 _,rfl⟩ ?_ ?_
  .exact aO
  rintro i ⟨hi,hinv⟩
  refine zA ?_
  simp[go_sem,Ks]
  refine zV (λq=> ?_) (λq=> ?_)
  .have q:i<32:=by simp at q;omega
   have q2:i<jv.length:=by rw[Ks];exact q
   have ei:=zQ q om
   obtain⟨x,hx⟩:=eX (jv[i])
   rw[A5 q2,Dh,hx]at hinv
   simp[go_sem,Ks,q,hx]
   try (refine zJ om ?_;simp[go_sem])
   refine zV (λw=> ?_) (λw=> ?_)
   .have w:x=s:=sU w
    simp[go_sem]
    exact ret _ _ (by rw[<-hM,<-hinv,w];simp)
   .have w: ¬x=s:=sU w
    have w2:(s==x)=false:=beq_eq_false_iff_ne.2 λh=>w h.symm
    rw[w2,C5]at hinv
    simp[go_sem,ei]
    exact zI (i+1) ⟨om,⟨q,hinv⟩,aO⟩
  .have q:i=32:=by simp at q;omega
   subst q
   rw[Bp (by rw[Ks];exact A7 _)]at hinv
   simp[go_sem]
   exact ret _ _ (by rw[<-hM,<-hinv];rfl)
structure bR where
 kind:Int
 place:Int
 s:aiZ
 n:Int
 deriving DecidableEq
@[go_sem] def bR.row (x:bR):List V:= [.int .i64 x.kind,.int .i64 x.place,.str x.s,.int .i64 x.n]
structure RS where
 at_:Nat
 bZ:Int
 err:Int
 place:Int
 deriving DecidableEq
def rB (L:List bR) (s:RS):Ob:= .box [.sl .ro (L.map bR.row),.int .i64 (s.at_:Int),.int .i64 s.bZ,.int .i64 s.err,.int .i64 s.place]
theorem Kt (L:List bR) (s:RS) (n:Nat):bS n (rB L s)=true:=by rfl
def lV:bR:=⟨0,0,[],0⟩
def cE (L:List bR) (s:RS):bR:=L.getD s.at_ lV
def iF (e place:Int) (s:RS):RS:=if s.err=0 then{s with err:=e,place:=place}else s
def zR (s:RS):RS:={s with at_:=s.at_+1}
def dH (s:RS):RS:={s with bZ:=s.bZ - 1}
def dt (L:List bR) (w:aiZ) (s:RS):Bool:=s.err==0&&(((cE L s).kind==1||(cE L s).kind==4)&&(cE L s).s==w)
def mD (L:List bR) (w:aiZ) (s:RS):RS:=if dt L w s=true then zR s else s
def yI (L:List bR) (w:aiZ) (s:RS):RS:=if dt L w s=true then zR s else iF 13 (cE L s).place s
def FZ (L:List bR) (s:RS):Bool:=s.err==0&&((cE L s).kind==1&&lu (cE L s).s)
def xC (L:List bR) (s:RS):aiZ×RS:=if FZ L s=true then((cE L s).s,zR s)else([],iF 13 (cE L s).place s)
def tu (L:List bR) (s:RS):Bool:=s.err==0&&(cE L s).kind==2
def hZ (L:List bR) (s:RS):Int×RS:=if tu L s=true then((cE L s).n,zR s)else(0,iF 13 (cE L s).place s)
def dY (L:List bR) (s:RS):List aiZ->aiZ
 | []=> []
 |w::ws=>if dt L w s=true then w else dY L s ws
def yT (L:List bR) (s:RS):RS:=if s.err=0/\s.bZ+1>200 then{s with bZ:=s.bZ+1,err:=3,place:=(cE L s).place}else{s with bZ:=s.bZ+1}
structure dv (L:List bR) (s:RS):Prop where
 at_:s.at_<L.length
 bZ:0<=s.bZ/\s.bZ<=100000
structure eR (L:List bR):Prop where
 len:L.length<=1000000
 last: ∀i,L.length=i+1->(L.getD i lV).kind=0
 wx: ∀t∈L,t.s.length<=maxLen
theorem eR.next {L:List bR} (h:eR L) {s:RS} (hs:dv L s) (hk:(cE L s).kind≠0):dv L (zR s):=by
 refine⟨?_,hs.bZ⟩
 have h1:=hs.at_
 rcases Bv (s.at_+1) L.length with h2|h2
 .exact h2
 .exact absurd (h.last s.at_ om) hk
theorem xJ5 {L:List bR} {w:aiZ} {s:RS} (h:dt L w s):(cE L s).kind≠0/\s.err=0:=by
 simp_all[dt];omega
theorem nB (L:List bR) (hL:eR L) (s:RS) (hs:dv L s):bN prog 69 [.ptr 0 0] [rB L s] (λr I=>r= .agg (cE L s).row/\I= [rB L s]):=by
 have h1:=hs.at_
 have hl:=hL.len
 obtain⟨t,ht⟩:=eX (L[s.at_])
 have aa:cE L s=t:=by unfold cE;grind
 rw[aa]
 refine iW 1 func69 ntmps69 results69 λc hc hb=>zM ?_
 simp[go_sem,rB]
 refine ny [(10,4)] 2 sm (by rfl) kR ?_
 simp[go_sem,h1,ht]
 exact yZ 1 rfl rfl rfl om (zC rfl) sm
theorem HL {args:List V} {L:List bR} {s s':RS} {v:V} (hc:bN P f cd [rB L s] (λr I=>r=v/\I= [rB L s'])) (hb:xE P f)
  (aa:bP (cT (cK [0] (τ.length+1))) cd (args++bY)) (hn:gK v) (hk:KV v (rB L s'::τ)):jm P c (.fn f bY) args (rB L s::τ) KV fx:=by
 refine mw 0 hc hb rfl (by rfl) aa (by grind[Kt]) ?_
 rintro r o2 ⟨rfl,h2⟩
 obtain rfl:o2=rB L s':=by grind
 grind[zm]
theorem tw {n:Nat} {args:List V} {L:List bR} {s s':RS} {v:V} (hc:bN P f cd [rB L s] (λr I=>r=v/\I= [rB L s'])) (hb:xE P f)
  (aa:bP (cT (cK [0] (τ.length+1))) cd (args++bY)) (hn:gK v) (hk:KV v (rB L s'::τ)):pQ P c ⟨1,n,[],none⟩ 3 (.fn f bY) args (rB L s::τ) KV fx:=
 Zz hc hb rfl (by rfl) (by rfl) aa hn hk
theorem wM {N:Nat} {l l':List V} (h:bP (cT (cK [0] N)) l l'):bP (cT (cK [0] N)) (.ptr 0 0::l) (.ptr 0 0::l'):=⟨.inl rfl,h⟩
theorem fK {N:Nat}:bP (cT (cK [0] N)) [.ptr 0 0] [.ptr 0 0]:=wM trivial
theorem pR {args:List V} {L:List bR} {s s':RS} {v:V} (hc:bN P f cd [rB L s] (λr I=>r=v/\I= [rB L s'])) (hk:KV v (rB L s'::τ))
  (aa:bP (cT (cK [0] (τ.length+1))) cd (args++bY):=by first|exact fK|exact wM (yG rfl)|exact wM ⟨zK,yG rfl⟩|exact wM ⟨zC rfl,zK,yG rfl⟩|exact wM ⟨zK,zK,yG rfl⟩)
  (hb:xE P f=true:=by kernel_rfl) (hn:gK v=true:=by rfl):jm P c (.fn f bY) args (rB L s::τ) KV fx:=HL hc hb aa hn hk
theorem xN {R:V->St->Prop} {L:List bR} {s:RS} {v r:V} (hr:cT (cK (List.range 1) (rB L s::τ).length) r v) (hR:R r [rB L s]):cx (some v) 1 R (rB L s::τ):=
 yZ 1 rfl rfl (by rfl) om hr hR
theorem jw (L:List bR) (hL:eR L) (s:RS) (hs:dv L s) (w:aiZ):bN prog 68 [.ptr 0 0,.str w] [rB L s] (λr I=>r= .bool (dt L w s)/\I= [rB L s]):=by
 have ht:=nB L hL s hs
 have aa:(cE L s).s.length<=maxLen:=by
  unfold cE
  rw[Al,A0 hs.at_]
  exact hL.wx _ sm
 generalize hM:dt L w s=M
 unfold dt at hM
 obtain⟨t,ab⟩:=eX (cE L s)
 rw[ab]at hM ht aa
 have ret: ∀(r:Bool) (τ:St),r=M->cx (some (.bool r)) 1 (λr I=>r= .bool M/\I= [rB L s]) (rB L s::τ):=λr τ h=>by subst h;exact xN (zC rfl) sm
 refine iW 1 func68 ntmps68 results68 λc hc hb=>zM ?_
 simp[go_sem]
 refine pR ht ?_
 simp[go_sem,rB]
 repeat' (first|(refine xD (λq=> ?_) (λq=> ?_)<;>simp[go_sem,q])|(refine zV (λq=> ?_) (λq=> ?_)<;>simp[go_sem,q]))
 all_goals exact ret _ _ (by rw[<-hM];simp_all)
theorem DS (L:List bR) (hL:eR L) (s:RS) (hs:dv L s) (w:aiZ):bN prog 67 [.ptr 0 0,.str w] [rB L s] (λr I=>r= .bool (dt L w s)/\I= [rB L (mD L w s)]):=by
 have hi:=jw L hL s hs w
 have h1:=hs.at_
 have hl:=hL.len
 have ei:IntKind.i64.wrap ((s.at_:Int)+1)=((s.at_+1:Nat):Int):=by grind[bX]
 unfold mD
 generalize dt L w s=b at hi
 refine iW 1 func67 ntmps67 results67 λc hc hb=>zM ?_
 simp[go_sem]
 refine pR hi ?_
 simp[go_sem,rB]
 refine(A6 b).elim (λq=> ?_) (λq=> ?_)
 all_goals subst q
 all_goals simp[go_sem,ei]
 .exact xN (s:=zR s) (zC rfl) (by trivial)
 .exact xN (s:=s) (zC rfl) (by trivial)
theorem AP (L:List bR) (s:RS) (e p:Int):bN prog 72 [.ptr 0 0,.int .i64 e,.int .i64 p] [rB L s] (λr I=>r= .cy []/\I= [rB L (iF e p s)]):=by
 unfold iF
 refine iW 1 func72 ntmps72 results72 λc hc hb=>zM ?_
 simp[go_sem,rB]
 refine zV (λq=> ?_) (λq=> ?_)
 .have q:s.err=0:=by grind
  simp[go_sem,q]
  exact xN (s:={s with err:=e,place:=p}) (zC rfl) (by trivial)
 .have q: ¬s.err=0:=by grind
  simp[go_sem,q]
  exact xN (s:=s) (zC rfl) (by trivial)
theorem lv (L:List bR) (hL:eR L) (s:RS) (hs:dv L s) (w:aiZ):bN prog 70 [.ptr 0 0,.str w] [rB L s] (λr I=>r= .cy []/\I= [rB L (yI L w s)]):=by
 have he:=DS L hL s hs w
 have ht:=nB L hL s hs
 have hf:=AP L s 13 (cE L s).place
 unfold mD at he
 unfold yI
 generalize dt L w s=b at he
 refine iW 1 func70 ntmps70 results70 λc hc hb=>zM ?_
 simp[go_sem]
 refine pR he ?_
 simp[go_sem]
 refine(A6 b).elim (λq=> ?_) (λq=> ?_)
 all_goals subst q
 all_goals simp[go_sem]
 .exact xN (zC rfl) sm
 .refine pR ht ?_
  simp[go_sem]
  refine pR hf ?_
  simp[go_sem]
  exact xN (zC rfl) sm
theorem DT (L:List bR) (hL:eR L) (s:RS) (hs:dv L s):bN prog 121 [.ptr 0 0] [rB L s] (λr I=>r= .str (xC L s).1/\I= [rB L (xC L s).2]):=by
 have ht:=nB L hL s hs
 have hf:=AP L s 13 (cE L s).place
 have ad:(cE L s).s.length<=maxLen:=by
  unfold cE
  rw[Al,A0 hs.at_]
  exact hL.wx _ sm
 have hw:=NO (cE L s).s ad
 have h1:=hs.at_
 have hl:=hL.len
 have ei:IntKind.i64.wrap ((s.at_:Int)+1)=((s.at_+1:Nat):Int):=by grind[bX]
 have ab:FZ L s=false->xC L s=([],iF 13 (cE L s).place s):=λh=>by unfold xC;grind
 have aa:FZ L s=true->xC L s=((cE L s).s,zR s):=λh=>by unfold xC;grind
 generalize xC L s=M at ab aa⊢
 unfold FZ at ab aa
 obtain⟨t,ae⟩:=eX (cE L s)
 rw[ae]at ht hf hw ab aa
 obtain⟨b,af⟩:=eX (lu t.s)
 rw[af]at hw ab aa
 have key:((s.err==0&&(t.kind==1&&b))=false/\(s.err !=0)=true)\/((s.err==0&&(t.kind==1&&b))=false/\(s.err !=0)=false/\(t.kind !=1)=true)\/((s.err==0&&(t.kind==1&&b))=b/\(s.err !=0)=false/\(t.kind !=1)=false):=by
  grind
 have no: ∀τ:St,M=([],iF 13 t.place s)->cx (some (.str [])) 1 (λr I=>r= .str M.1/\I= [rB L M.2]) (rB L (iF 13 t.place s)::τ):=λτ h=>by subst h;exact xN (zC rfl) sm
 refine iW 1 func121 ntmps121 results121 λc hc hb=>zM ?_
 simp[go_sem]
 refine pR ht ?_
 simp[go_sem,rB]
 refine key.elim (λ⟨q1,q2⟩=> ?_) λkey=>key.elim (λ⟨q1,q2,q3⟩=> ?_) λ⟨q1,q2,q3⟩=> ?_
 .simp[go_sem,q2]
  refine pR hf ?_
  simp[go_sem]
  exact no _ (ab q1)
 .simp[go_sem,q2,q3]
  refine pR hf ?_
  simp[go_sem]
  exact no _ (ab q1)
 .simp[go_sem,q2,q3]
  refine pC hw ?_
  refine(A6 b).elim (λq=> ?_) (λq=> ?_)
  .have hM:=aa (q1.trans q)
   subst q
   subst hM
   simp[go_sem,ei]
   exact xN (s:=zR s) (zC rfl) (by trivial)
  .have hM:=ab (q1.trans q)
   subst q
   simp[go_sem]
   refine pR hf ?_
   simp[go_sem]
   exact no _ hM
theorem F0 (L:List bR) (hL:eR L) (s:RS) (hs:dv L s):bN prog 71 [.ptr 0 0] [rB L s] (λr I=>r= .int .i64 (hZ L s).1/\I= [rB L (hZ L s).2]):=by
 have ht:=nB L hL s hs
 have hf:=AP L s 13 (cE L s).place
 have h1:=hs.at_
 have hl:=hL.len
 have ei:IntKind.i64.wrap ((s.at_:Int)+1)=((s.at_+1:Nat):Int):=by grind[bX]
 have ab:tu L s=false->hZ L s=(0,iF 13 (cE L s).place s):=λh=>by unfold hZ;grind
 have aa:tu L s=true->hZ L s=((cE L s).n,zR s):=λh=>by unfold hZ;grind
 generalize hZ L s=M at ab aa⊢
 unfold tu at ab aa
 obtain⟨t,ad⟩:=eX (cE L s)
 rw[ad]at ht hf ab aa
 have key:((s.err==0&&t.kind==2)=false/\(s.err !=0)=true)\/((s.err==0&&t.kind==2)=false/\(s.err !=0)=false/\(t.kind !=2)=true)\/((s.err==0&&t.kind==2)=true/\(s.err !=0)=false/\(t.kind !=2)=false):=by
  grind
 have no: ∀τ:St,M=(0,iF 13 t.place s)->cx (some (.int .i64 0)) 1 (λr I=>r= .int .i64 M.1/\I= [rB L M.2]) (rB L (iF 13 t.place s)::τ):=λτ h=>by subst h;exact xN (zC rfl) sm
 refine iW 1 func71 ntmps71 results71 λc hc hb=>zM ?_
 simp[go_sem]
 refine pR ht ?_
 simp[go_sem,rB]
 refine key.elim (λ⟨q1,q2⟩=> ?_) λkey=>key.elim (λ⟨q1,q2,q3⟩=> ?_) λ⟨q1,q2,q3⟩=> ?_
 .simp[go_sem,q2]
  refine pR hf ?_
  simp[go_sem]
  exact no _ (ab q1)
 .simp[go_sem,q2,q3]
  refine pR hf ?_
  simp[go_sem]
  exact no _ (ab q1)
 .have hM:=aa q1
  subst hM
  simp[go_sem,q2,q3,ei]
  exact xN (s:=zR s) (zC rfl) (by trivial)
theorem AQ (L:List bR) (hL:eR L) (s:RS) (hs:dv L s) (ws:List aiZ) (hw:ws.length<=1000):bN prog 64 [.ptr 0 0,.sl .ro (ws.map λw=> [V.str w])] [rB L s] (λr I=>r= .str (dY L s ws)/\I= [rB L s]):=by
 generalize hM:dY L s ws=M
 have ret: ∀(r:aiZ) (τ:St),r=M->cx (some (.str r)) 1 (λr I=>r= .str M/\I= [rB L s]) (rB L s::τ):=λr τ h=>by subst h;exact xN (zC rfl) sm
 refine iV 1 func64 ntmps64 results64 λc hc hb=> ?_
 refine zA ?_
 simp[go_sem]
 refine zH (S:=Nat) [0,1,5] (λi=> [.ptr 0 0,.sl .ro (ws.map λw=> [V.str w]),.int .i64 i]) (λ_=> [rB L s]) (λi=>ws.length - i) (λi=>i<=ws.length/\dY L s (ws.drop i)=M) hc hb 0 (by grind) ?_ ?_
 .exact cc 1 (by rfl) rfl (by rfl) om (zD (by rfl) rfl)
 rintro i ⟨hi,hinv⟩
 by_cases q:i<ws.length
 rotate_left
 .rw[A9 om]at hinv
  refine zA ?_
  simp[go_sem,q]
  exact ret _ _ hinv
 have ei:=zQ q om
 obtain⟨w,hx⟩:=eX (ws[i])
 rw[A5 q,hx,dY]at hinv
 have aa:=jw L hL s hs w
 obtain⟨b,ab⟩:=eX (dt L w s)
 rw[ab]at aa hinv
 refine zA ?_
 simp[go_sem,q,hx]
 refine pR aa ?_
 simp[go_sem]
 refine zV (λw1=> ?_) (λw1=> ?_)
 .rw[aiv w1]at hinv
  simp[go_sem,q,hx]
  exact ret _ _ hinv
 .rw[aiu (by grind)]at hinv
  simp[go_sem,ei]
  exact zI (i+1) ⟨om,(by grind),cc 1 rfl rfl (by rfl) om (zD (by rfl) rfl)⟩
theorem DU (L:List bR) (hL:eR L) (s:RS) (hs:dv L s) (ad:s.bZ<=1000):bN prog 290 [.ptr 0 0] [rB L s] (λr I=>r= .bool ((yT L s).err==0)/\I= [rB L (yT L s)]):=by
 have ho:=hs.bZ
 have ht:=nB L hL {s with bZ:=s.bZ+1} ⟨hs.at_,by grind⟩
 have e0:cE L {s with bZ:=s.bZ+1}=cE L s:=rfl
 rw[e0]at ht
 have hf:=AP L {s with bZ:=s.bZ+1} 3 (cE L s).place
 have ei:IntKind.i64.wrap (s.bZ+1)=s.bZ+1:=by grind[bX]
 refine iW 1 func290 ntmps290 results290 λc hc hb=>zM ?_
 simp[go_sem,rB,ei]
 by_cases q1:s.err=0
 .have aa:(s.err==0)=true:=by grind
  by_cases q2:s.bZ+1>200
  .have ab:decide (200<s.bZ+1)=true:=(by grind)
   have hS:yT L s=iF 3 (cE L s).place {s with bZ:=s.bZ+1}:=by simp_all[yT,iF]
   rw[hS]
   simp[go_sem,aa,ab]
   refine pR ht ?_
   simp[go_sem]
   refine pR hf ?_
   unfold iF
   rw[aiv q1]
   simp[go_sem,rB]
   exact xN (L:=L) (s:={s with bZ:=s.bZ+1,err:=3,place:=(cE L s).place}) (zC rfl) (by trivial)
  .have ab:decide (200<s.bZ+1)=false:=(by grind)
   have hS:yT L s={s with bZ:=s.bZ+1}:=by simp_all[yT]
   rw[hS]
   simp[go_sem,aa,ab]
   exact xN (L:=L) (s:={s with bZ:=s.bZ+1}) (zC rfl) (by trivial)
 .have aa:(s.err==0)=false:=by grind
  have hS:yT L s={s with bZ:=s.bZ+1}:=by simp_all[yT]
  rw[hS]
  simp[go_sem,aa]
  exact xN (L:=L) (s:={s with bZ:=s.bZ+1}) (zC rfl) (by trivial)
theorem Sg:Pure prog 292 [] (.sl .ro [[.sl .ro [[.str [79,82]]]],[.sl .ro [[.str [65,78,68]]]]]):=by
 refine iW 0 func292 ntmps292 results292 λc hc hb=>zM ?_
 simp[go_sem]
 exact zW zK sm
mutual
def ij:bJ->Nat
 | .mk _ _ _ args=>wL args+1
def wL:List bJ->Nat
 | []=>0
 |e::l=>max (ij e) (wL l)
end
variable {e:bJ}{w:aiZ}{o:Int}{τ:St}{a:List bJ}
theorem uQ (e:bJ):ij e=wL e.args+1:=by cases e;rfl
theorem DV: ∀(l:List bJ) (e:bJ),e∈l->ij e<=wL l
 | [],_,h=>by grind
 |x::l,e,h=>by
  rw[wL]
  rcases Ae.1 h with rfl|h
  .omega
  .have:=DV l e h;omega
inductive fB:bJ->Prop
 |mk (e:bJ) (h:e.args.length<=1000000) (ha: ∀x∈e.args,fB x):fB e
theorem fB.len (h:fB e):e.args.length<=1000000:=by cases h;omega
theorem fB.sub (h:fB e): ∀x∈e.args,fB x:=by cases h;omega
def maxD (l:List bJ) (d:Nat):Nat:=l.foldl (λd e=>max d (ij e)) d
theorem Sh: ∀(l:List bJ) (d:Nat),maxD l d=max d (wL l)
 | [],d=>by grind[maxD,wL]
 |e::l,d=>by
  have:=Sh l (max d (ij e))
  unfold maxD at this⊢
  rw[Bn,this,wL]
  omega
theorem Si: ∀(n:Nat) (e:bJ),ij e<=n->n<=1000000->fB e->Pure prog 318 [.agg e.row] (.int .i64 (ij e:Int))
 |0,e,h,_,_=>by grind[uQ]
 |n+1,e,h,hn,hw=>by
  have ih:=Si n
  have ae:=uQ e
  obtain⟨args,aa⟩:=eX e.args
  have hlen:=hw.len
  have ab:=hw.sub
  rw[aa]at ae hlen ab
  obtain⟨D,hD⟩:=eX (ij e)
  rw[hD]at ae h⊢
  refine iV 0 func318 ntmps318 results318 λc hc hb=> ?_
  refine zA ?_
  simp[go_sem]
  refine zH (S:=Nat×Nat) [1,3,4] (λu=> [.ptr 0 0,.int .i64 (u.2:Int),.int .i64 (u.1:Int)]) (λ_=> [.box e.row]) (λu=>args.length - u.1) (λu=>u.1<=args.length/\maxD (args.drop u.1) u.2=wL args/\u.2<=n) hc hb (0,0) (by simp[Sh]) ?_ ?_
  .exact cc 1 sg rfl (by simp[bS,cN,cL,bJ.bQ]) om (zD (by rfl) rfl)
  rintro⟨i,d⟩ ⟨hi,hinv,aj⟩
  simp only at hi hinv aj
  by_cases q:i<args.length
  rotate_left
  .rw[A9 om]at hinv
   have al:d=wL args:=hinv
   have ei:IntKind.i64.wrap ((d:Int)+1)=(D:Int):=by grind[bX]
   refine zA ?_
   simp[go_sem,q,aa,ei]
   exact zW (zC rfl) sm
  have ei:=zQ q om
  obtain⟨x,hx⟩:=eX (args[i])
  have af:x∈args:=(by grind)
  have ak:=DV args x af
  rw[A5 q,hx]at hinv
  have ah:=ih x om om (ab x af)
  have ad:maxD (args.drop (i+1)) (max d (ij x))=wL args:=hinv
  obtain⟨dx,ai⟩:=eX (ij x)
  rw[ai]at ah ad ak
  refine zA ?_
  simp[go_sem,q,aa,hx]
  refine zL ah cB (zP sg (by rw[bJ.bQ];rfl)) rfl ?_
  simp[go_sem,ei]
  refine zI (i+1,max d dx) ⟨om,(by grind), ?_⟩
  refine cc 1 (by simp[go_sem,aa]) rfl (by simp[bS,cN,cL,bJ.bQ]) om (zD ?_ rfl)
  simp[go_sem]
  omega
abbrev PR:=bJ×RS
def de:bJ:= .mk 0 [] ⟨0,0,[]⟩ []
def qN (w:aiZ) (args:List bJ):bJ:= .mk 3 w ⟨0,0,[]⟩ args
def kg (v:bK):bJ:= .mk 1 [] v []
def DW (w:aiZ):bJ:= .mk 2 w ⟨0,0,[]⟩ []
def nC (place:Int) (w:aiZ) (args:List bJ) (s:RS):RS:=if s.err=0/\16<ij (qN w args)then iF 3 place s else s
def ik (place:Int) (w:aiZ) (args:List bJ) (s:RS):PR:=(qN w args,nC place w args s)
def jY (L:List bR) (k:RS->PR) (s:RS):PR:=if(yT L s).err=0 then((k (yT L s)).1,dH (k (yT L s)).2)else(de,dH (yT L s))
def eV (L:List bR) (ws:List aiZ) (sub:RS->PR):Nat->PR->PR
 |0,x=>x
 |n+1,x=>if dY L x.2 ws= []then x else eV L ws sub n (ik (cE L x.2).place (dY L x.2 ws) [x.1,(sub (zR x.2)).1] (sub (zR x.2)).2)
def qP:aiZ:= [79,82]
def jP:aiZ:= [65,78,68]
def kh:aiZ:= [78,79,84]
def Ku:aiZ:= [73,83]
def o7:aiZ:= [78,85,76,76]
def Kv:aiZ:= [73,83,78,85,76,76]
def Kw:aiZ:= [78,79,84,78,85,76,76]
def fV:List aiZ:= [[61],[60,62],[60],[60,61],[62],[62,61]]
def o8:List aiZ:= [[43],[45]]
def o9:List aiZ:= [[42],[47],[37]]
def nD (L:List bR) (rn rc:RS->PR) (s:RS):PR:=if dt L kh s=true then ik (cE L s).place kh [(rn (zR s)).1] (rn (zR s)).2 else rc s
def nE (L:List bR) (sub:RS->PR) (x:PR):PR:=
 if dt L Ku x.2=true then
  if dt L kh (zR x.2)=true then ik (cE L x.2).place Kw [x.1] (yI L o7 (zR (zR x.2)))else ik (cE L x.2).place Kv [x.1] (yI L o7 (zR x.2))
 else if dY L x.2 fV= []then x else ik (cE L x.2).place (dY L x.2 fV) [x.1,(sub (zR x.2)).1] (sub (zR x.2)).2
def tz (L:List bR) (un ex:RS->PR) (s:RS):PR:=
 if dt L [45] s=true then ik (cE L s).place [78,69,71] [(un (zR s)).1] (un (zR s)).2
 else if dt L [40] s=true then((ex (zR s)).1,yI L [41] (ex (zR s)).2)
 else if dt L [84,82,85,69] s=true then(kg ⟨1,1,[]⟩,zR s)
 else if dt L [70,65,76,83,69] s=true then(kg ⟨1,0,[]⟩,zR s)
 else if dt L o7 s=true then(kg ⟨0,0,[]⟩,zR s)
 else if(cE L s).kind=2 then(kg ⟨2,(cE L s).n,[]⟩,zR s)
 else if(cE L s).kind=3 then(kg ⟨3,0,(cE L s).s⟩,zR s)
 else(DW (xC L s).1,(xC L s).2)
def kB (L:List bR) (rec:Nat->RS->PR):Nat->RS->PR
 |0,s=>eV L [qP] (rec 1) L.length (rec 1 s)
 |1,s=>eV L [jP] (rec 2) L.length (rec 2 s)
 |2,s=>nD L (rec 2) (rec 3) s
 |3,s=>nE L (rec 4) (rec 4 s)
 |4,s=>eV L o8 (rec 5) L.length (rec 5 s)
 |5,s=>eV L o9 (rec 6) L.length (rec 6 s)
 |_,s=>tz L (rec 6) (rec 0) s
def pF (L:List bR):Nat->Nat->RS->PR
 |0,_,s=>(de,s)
 |f+1,w,s=>jY L (kB L (pF L f) w) s
structure PI (L:List bR) (s:RS) (x:PR):Prop where
 cz:dv L x.2
 bZ:x.2.bZ=s.bZ
 up:s.at_<=x.2.at_
 err:x.2.err=0->s.err=0/\ij x.1<=16
 wide:fB x.1
theorem DX {e p:Int} {s:RS} (he:e≠0):(iF e p s).err≠0:=by unfold iF;split<;>simp_all
theorem HM (e p:Int) (s:RS):(iF e p s).at_=s.at_:=by unfold iF;split<;>rfl
theorem HN (e p:Int) (s:RS):(iF e p s).bZ=s.bZ:=by unfold iF;split<;>rfl
theorem NP {L:List bR} {s:RS} (h:dv L s) (e p:Int):dv L (iF e p s):=⟨by rw[HM];exact h.at_,by rw[HN];exact h.bZ⟩
theorem DY (p:Int) (w:aiZ) (a:List bJ) (s:RS):(nC p w a s).at_=s.at_:=by unfold nC;split;exact HM _ _ _;rfl
theorem Kx (p:Int) (w:aiZ) (a:List bJ) (s:RS):(nC p w a s).bZ=s.bZ:=by unfold nC;split;exact HN _ _ _;rfl
theorem NQ {p:Int} {s:RS} (h:(nC p w a s).err=0):s.err=0/\ij (qN w a)<=16:=by
 unfold nC at h
 split at h
 .exact absurd h (DX dC)
 .rename_i hc
  refine⟨h, ?_⟩
  by_cases q:16<ij (qN w a)
  .exact absurd ⟨h,q⟩ hc
  .omega
theorem wo1 {L:List bR} {s:RS} (h:dv L s) (p:Int) (w:aiZ) (a:List bJ):dv L (nC p w a s):=⟨by rw[DY];exact h.at_,by rw[Kx];exact h.bZ⟩
theorem Sj (p:Int) (w:aiZ) (a:List bJ) (s:RS):nC p w a (dH s)=dH (nC p w a s):=by
 unfold nC iF dH
 by_cases q:s.err=0/\16<ij (qN w a)
 .rw[aiv q,aiv q,aiv q.1,aiv q.1]
 .rw[aiu q,aiu q]
theorem xE8 (w:aiZ) (a:List bJ):ij (qN w a)=wL a+1:=uQ _
theorem Sk (h:a.length<=1000000) (ha: ∀x∈a,fB x):fB (qN w a):= .mk _ h ha
theorem Sl (h:e.args= []):fB e:= .mk _ (by simp[h]) (by simp[h])
def RR (L:List bR) (x:PR):V->St->Prop:=λr I=>r= .agg x.1.row/\I= [rB L x.2]
theorem wK {L:List bR} {s:RS} {x:PR} (h:x=(e,s)):cx (some (.agg [.int .i64 e.kind,.str e.s,.int .i64 e.v.kind,.int .i64 e.v.n,.str e.v.s,.sl .ro (e.args.map bJ.row)])) 1 (RR L x) (rB L s::τ):=by
 subst h
 exact xN (zC rfl) ⟨by rw[bJ.bQ],rfl⟩
theorem Sn (e:bJ):gK (.agg e.row)=true:=by rw[bJ.bQ];rfl
theorem jZ {P:Program} {c:Ctx} {f:FuncId} {bY args cd:List V} {L:List bR} {s:RS} {x:PR} {KV:V->St->Prop} (hc:bN P f cd [rB L s] (RR L x)) (hb:xE P f)
  (aa:bP (cT (cK [0] (τ.length+1))) cd (args++bY)) (hk:KV (.agg x.1.row) (rB L x.2::τ)):jm P c (.fn f bY) args (rB L s::τ) KV fx:=
 HL hc hb aa (Sn _) hk
theorem rW {P:Program} {c:Ctx} {n:Nat} {f:FuncId} {bY args cd:List V} {L:List bR} {s:RS} {x:PR} {KV:V->St->Prop} (hc:bN P f cd [rB L s] (RR L x)) (hb:xE P f)
  (aa:bP (cT (cK [0] (τ.length+1))) cd (args++bY)) (hk:KV (.agg x.1.row) (rB L x.2::τ)):pQ P c ⟨1,n,[],none⟩ 3 (.fn f bY) args (rB L s::τ) KV fx:=
 tw hc hb aa (Sn _) hk
theorem mE (L:List bR) (s:RS) (p:Int) (w:aiZ) (a:List bJ) (hl:a.length<=1000) (hw: ∀x∈a,fB x) (hd:s.err=0->wL a<=1000):
  bN prog 293 [.ptr 0 0,.int .i64 p,.str w,.sl .ro (a.map bJ.row)] [rB L s] (RR L (ik p w a s)):=by
 obtain⟨D,hD⟩:=eX (ij (qN w a))
 have ad:=xE8 w a
 rw[hD]at ad
 have hf:=AP L s 3 p
 have hS:ik p w a s=(qN w a,if s.err=0/\16<D then iF 3 p s else s):=by unfold ik nC;rw[hD]
 generalize ik p w a s=M at hS⊢
 refine iW 1 func293 ntmps293 results293 λc hc hb=>zM ?_
 by_cases q1:s.err=0
 .have aa:(s.err==0)=true:=sU q1
  have ae:=Si 1001 (qN w a) (by rw[hD,ad];have:=hd q1;omega) om (Sk om hw)
  rw[hD]at ae
  simp[go_sem,rB,aa]
  refine zL ae cB (zP (by rw[bJ.bQ];rfl) rfl) rfl ?_
  simp[go_sem]
  by_cases q2:16<D
  .have ab:decide ((16:Int)<(D:Int))=true:=aix om
   rw[aiv ⟨q1,q2⟩]at hS
   simp[go_sem,ab]
   refine pR hf ?_
   simp[go_sem]
   exact wK hS
  .have ab:decide ((16:Int)<(D:Int))=false:=aiw om
   rw[aiu (λh=>q2 h.2)]at hS
   simp[go_sem,ab]
   exact wK hS
 .have aa:(s.err==0)=false:=sU q1
  rw[aiu (λh=>q1 h.1)]at hS
  simp[go_sem,rB,aa]
  exact wK hS
variable {L:List bR}
theorem ox (s:RS):(zR s).at_=s.at_+1:=rfl
theorem DZ {s:RS}: ∀{ws:List aiZ},dY L s ws≠ []->dt L (dY L s ws) s=true
 | [],h=>absurd rfl h
 |w::ws,h=>by
  unfold dY at h⊢
  split
  .assumption
  .rename_i hn
   rw[aiu hn]at h
   exact DZ h
theorem dv.next (hL:eR L) {s:RS} (h:dv L s) (hi:dt L w s):dv L (zR s):=hL.next h (xJ5 hi).1
theorem uR (hL:eR L) {s:RS} (h:dv L s):dv L (yI L w s):=by
 unfold yI
 split
 .exact h.next hL ‹_›
 .exact NP h _ _
theorem Ea (w:aiZ) (s:RS):s.at_<=(yI L w s).at_:=by
 unfold yI
 split
 .simp[zR]
 .rw[HM];exact A7 _
theorem Eb (w:aiZ) (s:RS):(yI L w s).bZ=s.bZ:=by
 unfold yI
 split
 .rfl
 .exact HN _ _ _
theorem wy {s:RS} (h:(yI L w s).err=0):s.err=0/\dt L w s=true:=by
 unfold yI at h
 split at h
 .exact⟨h,‹_›⟩
 .exact absurd h (DX dC)
theorem Sp (hL:eR L) {s:RS} (h:dv L s):dv L (xC L s).2:=by
 unfold xC
 split
 .rename_i hb
  unfold FZ at hb
  simp only[Ab,aiB]at hb
  exact hL.next h (by rw[hb.2.1];decide)
 .exact NP h _ _
theorem Sq (s:RS):s.at_<=(xC L s).2.at_:=by
 unfold xC
 split
 .simp[zR]
 .simp only[HM];exact A7 _
theorem Sr (s:RS):(xC L s).2.bZ=s.bZ:=by
 unfold xC
 split
 .rfl
 .exact HN _ _ _
theorem NR {s:RS} (h:(xC L s).2.err=0):s.err=0/\FZ L s=true:=by
 unfold xC at h
 split at h
 .exact⟨h,‹_›⟩
 .exact absurd h (DX dC)
theorem xX1 (h:e.args= []):ij e=1:=by rw[uQ,h];rfl
theorem uS {s0 s:RS} (p:Int) (w:aiZ) (h1:dv L s) (h2:s.bZ=s0.bZ) (h3:s0.at_<=s.at_) (h4:s.err=0->s0.err=0) (h5:a.length<=1000000) (h6: ∀x∈a,fB x):PI L s0 (ik p w a s):=
 ⟨wo1 h1 _ _ _,by show(nC p w a s).bZ=_;rw[Kx,h2],by show _<=(nC p w a s).at_;rw[DY];exact h3,λh=>⟨h4 (NQ h).1,(NQ h).2⟩,Sk h5 h6⟩
theorem F1 (hL:eR L) {o:Int} {sub:RS->PR} (aa: ∀s,dv L s->s.bZ=o->PI L s (sub s)) (ws:List aiZ) {s0:RS}: ∀(n:Nat) (x:PR),PI L s0 x->s0.bZ=o->PI L s0 (eV L ws sub n x)
 |0,x,h,_=>h
 |n+1,x,h,ho=>by
  unfold eV
  split
  .exact h
  rename_i ab
  have hi:=DZ ab
  have hx:=h.bZ
  have hy:=aa (zR x.2) (h.cz.next hL hi) (by show x.2.bZ=o;rw[hx,ho])
  refine F1 hL aa ws n _ (uS _ _ hy.cz ?_ ?_ (λhe=>(h.err ?_).1) sm ?_) ho
  .rw[hy.bZ];exact hx
  .have h1:=hy.up;have h2:=h.up;rw[ox]at h1;omega
  .exact(hy.err he).1
  .intro e he
   simp only[Ae,Bf,aiJ]at he
   rcases he with rfl|rfl
   .exact h.wide
   .exact hy.wide
theorem wa5 (hL:eR L) {rn rc:RS->PR} (h1: ∀s,dv L s->s.bZ=o->PI L s (rn s)) (h2: ∀s,dv L s->s.bZ=o->PI L s (rc s)) (s:RS) (hs:dv L s) (ho:s.bZ=o):PI L s (nD L rn rc s):=by
 unfold nD
 split
 .rename_i hi
  have hy:=h1 (zR s) (hs.next hL hi) ho
  refine uS _ _ hy.cz hy.bZ ?_ (λhe=>(hy.err he).1) sm (λe he=> ?_)
  .have h1:=hy.up;rw[ox]at h1;omega
  .simp only[Ae,Bf,aiJ]at he;subst he;exact hy.wide
 .exact h2 s hs ho
theorem xW9 (hL:eR L) {sub:RS->PR} (aa: ∀s,dv L s->s.bZ=o->PI L s (sub s)) (s:RS) (ho:s.bZ=o) (x:PR) (h:PI L s x):PI L s (nE L sub x):=by
 have hx:=h.bZ
 have hu:=h.up
 have w1: ∀e∈ [x.1],fB e:=λe he=>by simp only[Ae,Bf,aiJ]at he;subst he;exact h.wide
 unfold nE
 split
 .rename_i hi
  have hn:=h.cz.next hL hi
  split
  .rename_i ab
   have ad:=hn.next hL ab
   refine uS _ _ (uR hL ad) ?_ ?_ (λhe=>(h.err ?_).1) sm w1
   .rw[Eb];exact hx
   .have:=Ea (L:=L) o7 (zR (zR x.2));simp only[zR]at this⊢;omega
   .exact(wy he).1
  .refine uS _ _ (uR hL hn) ?_ ?_ (λhe=>(h.err ?_).1) sm w1
   .rw[Eb];exact hx
   .have:=Ea (L:=L) o7 (zR x.2);simp only[zR]at this⊢;omega
   .exact(wy he).1
 .split
  .exact h
  rename_i ae
  have hi:=DZ ae
  have hy:=aa (zR x.2) (h.cz.next hL hi) (by show x.2.bZ=o;rw[hx,ho])
  refine uS _ _ hy.cz ?_ ?_ (λhe=>(h.err ?_).1) sm ?_
  .rw[hy.bZ];exact hx
  .have h1:=hy.up;rw[ox]at h1;omega
  .exact(hy.err he).1
  .intro e he
   simp only[Ae,Bf,aiJ]at he
   rcases he with rfl|rfl
   .exact h.wide
   .exact hy.wide
theorem Ec {s:RS} (ha:e.args= []) {s2:RS} (h1:dv L s2) (h2:s2.bZ=s.bZ) (h3:s.at_<=s2.at_) (h4:s2.err=0->s.err=0):PI L s (e,s2):=
 ⟨h1,h2,h3,λh=>⟨h4 h,by simp only;rw[xX1 ha];decide⟩,Sl ha⟩
theorem Ss (hL:eR L) {un ex:RS->PR} (h1: ∀s,dv L s->s.bZ=o->PI L s (un s)) (h2: ∀s,dv L s->s.bZ=o->PI L s (ex s)) (s:RS) (hs:dv L s) (ho:s.bZ=o):PI L s (tz L un ex s):=by
 unfold tz
 split
 .rename_i hi
  have hy:=h1 (zR s) (hs.next hL hi) ho
  refine uS _ _ hy.cz hy.bZ ?_ (λhe=>(hy.err he).1) sm (λe he=> ?_)
  .have h1:=hy.up;rw[ox]at h1;omega
  .simp only[Ae,Bf,aiJ]at he;subst he;exact hy.wide
 split
 .rename_i hi
  have hy:=h2 (zR s) (hs.next hL hi) ho
  refine⟨uR hL hy.cz, ?_, ?_,λhe=> ?_,hy.wide⟩
  .rw[Eb];exact hy.bZ
  .have h1:=hy.up;have h2:=Ea (L:=L) [41] (ex (zR s)).2;rw[ox]at h1;show _<=(yI L [41] (ex (zR s)).2).at_;omega
  .have:=hy.err (wy he).1;exact this
 split
 .exact Ec rfl (hs.next hL ‹_›) rfl (by simp[zR]) id
 split
 .exact Ec rfl (hs.next hL ‹_›) rfl (by simp[zR]) id
 split
 .exact Ec rfl (hs.next hL ‹_›) rfl (by simp[zR]) id
 split
 .exact Ec rfl (hL.next hs om) rfl (by simp[zR]) id
 split
 .exact Ec rfl (hL.next hs om) rfl (by simp[zR]) id
 .exact Ec rfl (Sp hL hs) (Sr s) (Sq s) (λh=>(NR h).1)
theorem xD7 (hL:eR L) {rec:Nat->RS->PR} (h: ∀w s,dv L s->s.bZ=o->PI L s (rec w s)): ∀(w:Nat) (s:RS),dv L s->s.bZ=o->PI L s (kB L rec w s)
 |0,s,hs,ho=>F1 hL (h 1) _ _ _ (h 1 s hs ho) ho
 |1,s,hs,ho=>F1 hL (h 2) _ _ _ (h 2 s hs ho) ho
 |2,s,hs,ho=>wa5 hL (h 2) (h 3) s hs ho
 |3,s,hs,ho=>xW9 hL (h 4) s ho _ (h 4 s hs ho)
 |4,s,hs,ho=>F1 hL (h 5) _ _ _ (h 5 s hs ho) ho
 |5,s,hs,ho=>F1 hL (h 6) _ _ _ (h 6 s hs ho) ho
 |_w+6,s,hs,ho=>Ss hL (h 6) (h 0) s hs ho
theorem Ky (s:RS):(yT L s).at_=s.at_:=by unfold yT;split<;>rfl
theorem qQ (s:RS):(yT L s).bZ=s.bZ+1:=by unfold yT;split<;>rfl
theorem uT {s:RS} (h:(yT L s).err=0):s.err=0/\s.bZ+1<=200:=by
 unfold yT at h
 split at h
 .simp at h
 .rename_i hc
  refine⟨h, ?_⟩
  by_cases q:s.bZ+1>200
  .exact absurd ⟨h,q⟩ hc
  .omega
theorem uV {s:RS} (hs:dv L s) (h:s.bZ<=200):dv L (yT L s):=⟨by rw[Ky];exact hs.at_,by rw[qQ];have:=hs.bZ;omega⟩
theorem Su {s:RS} (hs:dv L s) (h:1<=s.bZ):dv L (dH s):=⟨hs.at_,by have:=hs.bZ;simp only[dH];omega⟩
theorem xP5 {k:RS->PR} (s:RS) (hs:dv L s) (h2:s.bZ<=200) (hk:(yT L s).err=0->PI L (yT L s) (k (yT L s))):PI L s (jY L k s):=by
 have hr:=uV hs h2
 have ho:=hs.bZ
 unfold jY
 split
 .rename_i he
  have hy:=hk he
  have h1:=hy.bZ
  have h3:=hy.up
  rw[qQ]at h1
  rw[Ky]at h3
  refine⟨Su hy.cz om, ?_,h3,λh=>⟨(uT he).1,(hy.err h).2⟩,hy.wide⟩
  simp only[dH]
  omega
 .rename_i he
  refine Ec rfl (Su hr (by rw[qQ];omega)) ?_ ?_ (λh=>absurd h he)
  .simp only[dH,qQ];omega
  .simp only[dH,Ky];exact A7 _
theorem Kz (hL:eR L): ∀(f:Nat) (w:Nat) (s:RS),dv L s->s.bZ<=200->201<=(f:Int)+s.bZ->PI L s (pF L f w s)
 |0,w,s,hs,h2,hf=>by omega
 |f+1,w,s,hs,h2,hf=>by
  unfold pF
  refine xP5 s hs h2 (λhe=> ?_)
  have h3:=(uT he).2
  exact xD7 hL (o:=s.bZ+1) (λw t ht ho=>Kz hL f w t ht om (by push_cast at hf;omega)) w _ (uV hs h2) (qQ s)
structure PW (L:List bR) (rec:Nat->RS->PR) (o:Int):Prop where
 ok: ∀w s,dv L s->s.bZ=o->PI L s (rec w s)
 chain: ∀k:Nat,k<=1-> ∀s,dv L s->s.bZ=o->bN prog 246 [.ptr 0 0,.int .i64 (k:Int)] [rB L s] (RR L (rec k s))
 not: ∀s,dv L s->s.bZ=o->bN prog 317 [.ptr 0 0] [rB L s] (RR L (rec 2 s))
 cmp: ∀s,dv L s->s.bZ=o->bN prog 329 [.ptr 0 0] [rB L s] (RR L (rec 3 s))
 sum: ∀s,dv L s->s.bZ=o->bN prog 335 [.ptr 0 0] [rB L s] (RR L (rec 4 s))
 prod: ∀s,dv L s->s.bZ=o->bN prog 336 [.ptr 0 0] [rB L s] (RR L (rec 5 s))
 unary: ∀s,dv L s->s.bZ=o->bN prog 337 [.ptr 0 0] [rB L s] (RR L (rec 6 s))
theorem AR {g:Tag} {L:List bR} {s:RS} {x:PR} (h:x=(e,s)):cx (some (.agg [.int .i64 e.kind,.str e.s,.int .i64 e.v.kind,.int .i64 e.v.n,.str e.v.s,.sl g (e.args.map bJ.row)])) 1 (RR L x) (rB L s::τ):=by
 subst h
 refine xN (r:= .agg [.int .i64 e.kind,.str e.s,.int .i64 e.v.kind,.int .i64 e.v.n,.str e.v.s,.sl .ro (e.args.map bJ.row)]) (wN ⟨zF rfl,zF rfl,zF rfl,zF rfl,zF rfl,zX,tV⟩) ⟨by rw[bJ.bQ],rfl⟩
def zB:Ob:= .box [.int .i64 0,.str [],.int .i64 0,.int .i64 0,.str [],.sl .full []]
theorem Ed (h0:0<=o) (h1:o<=1000):IntKind.i64.wrap (o - 1)=o - 1:=bX om om
theorem wu1 (L:List bR) (hL:eR L) (rec:Nat->RS->PR) (s:RS) (hs:dv L s) (h2:s.bZ<=200) (ak:s.bZ+1<=200->PW L rec (s.bZ+1)):
  bN prog 335 [.ptr 0 0] [rB L s] (RR L (jY L (kB L rec 4) s)):=by
 have hr:=DU L hL s hs om
 have aa:=uV hs h2
 have ab:=qQ (L:=L) s
 have al:=uT (L:=L) (s:=s)
 have ho:=hs.bZ
 have hM:jY L (kB L rec 4) s=if(yT L s).err=0 then((eV L o8 (rec 5) L.length (rec 5 (yT L s))).1,dH (eV L o8 (rec 5) L.length (rec 5 (yT L s))).2)else(de,dH (yT L s)):=rfl
 generalize jY L (kB L rec 4) s=M at hM⊢
 generalize yT L s=s1 at hr aa ab al hM
 have eo:=Ed (o:=s1.bZ) om om
 refine iV 1 func335 ntmps335 results335 λc hc hb=> ?_
 by_cases q1:s1.err=0
 rotate_left
 .have af:(s1.err==0)=false:=sU q1
  rw[aiu q1]at hM
  rw[af]at hr
  refine zA ?_
  simp[go_sem]
  refine pR hr ?_
  simp[go_sem,rB,eo]
  exact AR (e:=de) (s:=dH s1) hM
 have af:(s1.err==0)=true:=sU q1
 rw[aiv q1]at hM
 rw[af]at hr
 have hP:=ak (al q1).2
 have ah:=hP.ok 5 s1 aa ab
 have an:=hP.prod s1 aa ab
 generalize rec 5 s1=x0 at ah an hM
 have ae:=AQ L hL x0.2 ah.cz o8 dC
 obtain⟨N,hN⟩:=eX L.length
 rw[hN]at hM
 refine zA ?_
 simp[go_sem]
 refine pR hr ?_
 simp[go_sem]
 refine jZ an cB fK ?_
 simp[go_sem]
 refine pR ae ?_
 simp[go_sem]
 refine zH (S:=PR) [0,2,3,4] (λx=> [.ptr 0 0,.ptr 1 0,.ptr 2 0,.str (dY L x.2 o8)]) (λx=> [rB L x.2,zB,.box x.1.row]) (λx=>N - x.2.at_) (λx=>PI L s1 x/\ ∃n,N<=n+x.2.at_/\((eV L o8 (rec 5) n x).1,dH (eV L o8 (rec 5) n x).2)=M) hc hb x0 ⟨ah,N,om,hM.symm⟩ ?_ ?_
 .exact cc 3 (by simp[go_sem,zB]) rfl (by simp[rB,zB,bS,cN,cL,bJ.bQ]) dC (zD sg rfl)
 rintro x ⟨hx,n,hn,hinv⟩
 have ay:=hx.cz.at_
 have ae:=AQ L hL x.2 hx.cz o8 dC
 have ao:=nB L hL x.2 hx.cz
 have ad:=hx.bZ
 by_cases q:dY L x.2 o8= []
 .have av:M=(x.1,dH x.2):=by
   cases n with
   |zero=>exact hinv.symm
   |succ n=>rw[eV,aiv q]at hinv;exact hinv.symm
  have aw:IntKind.i64.wrap (x.2.bZ - 1)=x.2.bZ - 1:=by rw[ad];exact eo
  refine zA ?_
  simp[go_sem,q,rB,aw]
  exact wK (s:=dH x.2) av
 obtain⟨n,rfl⟩: ∃m,n=m+1:=⟨n - 1,om⟩
 rw[eV,aiu q]at hinv
 have hi:=DZ q
 have aq:=hx.cz.next hL hi
 have hy:=hP.ok 5 (zR x.2) aq (by show x.2.bZ=_;rw[ad,ab])
 have ar:=hP.prod (zR x.2) aq (by show x.2.bZ=_;rw[ad,ab])
 generalize rec 5 (zR x.2)=y at hy ar hinv
 have ax:=hy.up
 rw[ox]at ax
 have hz:PI L s1 (ik (cE L x.2).place (dY L x.2 o8) [x.1,y.1] y.2):=uS _ _ hy.cz (by rw[hy.bZ];exact ad) (by have:=hx.up;omega) (λhe=>(hx.err (hy.err he).1).1) sm (λe he=>by
  simp only[Ae,Bf,aiJ]at he
  rcases he with rfl|rfl
  .exact hx.wide
  .exact hy.wide)
 have ai:=mE L y.2 (cE L x.2).place (dY L x.2 o8) [x.1,y.1] sm (λe he=>by
  simp only[Ae,Bf,aiJ]at he
  rcases he with rfl|rfl
  .exact hx.wide
  .exact hy.wide) (λhe=>by
   have h1:=(hy.err he).2
   have h2:=(hx.err (hy.err he).1).2
   simp only[wL]
   omega)
 have au:(ik (cE L x.2).place (dY L x.2 o8) [x.1,y.1] y.2).2.at_=y.2.at_:=DY _ _ _ _
 generalize ik (cE L x.2).place (dY L x.2 o8) [x.1,y.1] y.2=z at hz ai hinv au
 have aj:=AQ L hL z.2 hz.cz o8 dC
 have az:=hz.cz.at_
 have hl:=hL.len
 have ei:IntKind.i64.wrap ((x.2.at_:Int)+1)=((x.2.at_+1:Nat):Int):=by rw[bX om om];omega
 have q':(dY L x.2 o8).isEmpty=false:=sU q
 refine zA ?_
 simp[go_sem,q']
 refine pR ao ?_
 simp[go_sem,rB,ei]
 simp only[Aj,Bq,bJ.bQ]at ai
 refine wJ [(3,1),(5,3),(7,3)] 1 3 sm kR kR ?_
 simp[go_sem]
 refine rW ar cB fK ?_
 simp[go_sem,bJ.bQ]
 refine rW ai cB (wM ⟨zC rfl,zC rfl,zK,tV⟩) ?_
 simp[go_sem,bJ.bQ]
 refine pR aj ?_
 simp[go_sem]
 refine zI z ⟨om,⟨hz,n,om,hinv⟩, ?_⟩
 exact cc 3 (by simp[go_sem,rB,zB,bJ.bQ]) rfl (by simp[zB,bS,cN,cL,bJ.bQ]) dC (zD sg rfl)
theorem wo6 (L:List bR) (hL:eR L) (rec:Nat->RS->PR) (s:RS) (hs:dv L s) (h2:s.bZ<=200) (ak:s.bZ+1<=200->PW L rec (s.bZ+1)):
  bN prog 336 [.ptr 0 0] [rB L s] (RR L (jY L (kB L rec 5) s)):=by
 have hr:=DU L hL s hs om
 have aa:=uV hs h2
 have ab:=qQ (L:=L) s
 have al:=uT (L:=L) (s:=s)
 have ho:=hs.bZ
 have hM:jY L (kB L rec 5) s=if(yT L s).err=0 then((eV L o9 (rec 6) L.length (rec 6 (yT L s))).1,dH (eV L o9 (rec 6) L.length (rec 6 (yT L s))).2)else(de,dH (yT L s)):=rfl
 generalize jY L (kB L rec 5) s=M at hM⊢
 generalize yT L s=s1 at hr aa ab al hM
 have eo:=Ed (o:=s1.bZ) om om
 refine iV 1 func336 ntmps336 results336 λc hc hb=> ?_
 by_cases q1:s1.err=0
 rotate_left
 .have af:(s1.err==0)=false:=sU q1
  rw[aiu q1]at hM
  rw[af]at hr
  refine zA ?_
  simp[go_sem]
  refine pR hr ?_
  simp[go_sem,rB,eo]
  exact AR (e:=de) (s:=dH s1) hM
 have af:(s1.err==0)=true:=sU q1
 rw[aiv q1]at hM
 rw[af]at hr
 have hP:=ak (al q1).2
 have ah:=hP.ok 6 s1 aa ab
 have an:=hP.unary s1 aa ab
 generalize rec 6 s1=x0 at ah an hM
 have ae:=AQ L hL x0.2 ah.cz o9 dC
 obtain⟨N,hN⟩:=eX L.length
 rw[hN]at hM
 refine zA ?_
 simp[go_sem]
 refine pR hr ?_
 simp[go_sem]
 refine jZ an cB fK ?_
 simp[go_sem]
 refine pR ae ?_
 simp[go_sem]
 refine zH (S:=PR) [0,2,3,4] (λx=> [.ptr 0 0,.ptr 1 0,.ptr 2 0,.str (dY L x.2 o9)]) (λx=> [rB L x.2,zB,.box x.1.row]) (λx=>N - x.2.at_) (λx=>PI L s1 x/\ ∃n,N<=n+x.2.at_/\((eV L o9 (rec 6) n x).1,dH (eV L o9 (rec 6) n x).2)=M) hc hb x0 ⟨ah,N,om,hM.symm⟩ ?_ ?_
 .exact cc 3 (by simp[go_sem,zB]) rfl (by simp[rB,zB,bS,cN,cL,bJ.bQ]) dC (zD sg rfl)
 rintro x ⟨hx,n,hn,hinv⟩
 have ay:=hx.cz.at_
 have ae:=AQ L hL x.2 hx.cz o9 dC
 have ao:=nB L hL x.2 hx.cz
 have ad:=hx.bZ
 by_cases q:dY L x.2 o9= []
 .have av:M=(x.1,dH x.2):=by
   cases n with
   |zero=>exact hinv.symm
   |succ n=>rw[eV,aiv q]at hinv;exact hinv.symm
  have aw:IntKind.i64.wrap (x.2.bZ - 1)=x.2.bZ - 1:=by rw[ad];exact eo
  refine zA ?_
  simp[go_sem,q,rB,aw]
  exact wK (s:=dH x.2) av
 obtain⟨n,rfl⟩: ∃m,n=m+1:=⟨n - 1,om⟩
 rw[eV,aiu q]at hinv
 have hi:=DZ q
 have aq:=hx.cz.next hL hi
 have hy:=hP.ok 6 (zR x.2) aq (by show x.2.bZ=_;rw[ad,ab])
 have ar:=hP.unary (zR x.2) aq (by show x.2.bZ=_;rw[ad,ab])
 generalize rec 6 (zR x.2)=y at hy ar hinv
 have ax:=hy.up
 rw[ox]at ax
 have hz:PI L s1 (ik (cE L x.2).place (dY L x.2 o9) [x.1,y.1] y.2):=uS _ _ hy.cz (by rw[hy.bZ];exact ad) (by have:=hx.up;omega) (λhe=>(hx.err (hy.err he).1).1) sm (λe he=>by
  simp only[Ae,Bf,aiJ]at he
  rcases he with rfl|rfl
  .exact hx.wide
  .exact hy.wide)
 have ai:=mE L y.2 (cE L x.2).place (dY L x.2 o9) [x.1,y.1] sm (λe he=>by
  simp only[Ae,Bf,aiJ]at he
  rcases he with rfl|rfl
  .exact hx.wide
  .exact hy.wide) (λhe=>by
   have h1:=(hy.err he).2
   have h2:=(hx.err (hy.err he).1).2
   simp only[wL]
   omega)
 have au:(ik (cE L x.2).place (dY L x.2 o9) [x.1,y.1] y.2).2.at_=y.2.at_:=DY _ _ _ _
 generalize ik (cE L x.2).place (dY L x.2 o9) [x.1,y.1] y.2=z at hz ai hinv au
 have aj:=AQ L hL z.2 hz.cz o9 dC
 have az:=hz.cz.at_
 have hl:=hL.len
 have ei:IntKind.i64.wrap ((x.2.at_:Int)+1)=((x.2.at_+1:Nat):Int):=by rw[bX om om];omega
 have q':(dY L x.2 o9).isEmpty=false:=sU q
 refine zA ?_
 simp[go_sem,q']
 refine pR ao ?_
 simp[go_sem,rB,ei]
 simp only[Aj,Bq,bJ.bQ]at ai
 refine wJ [(3,1),(5,3),(7,3)] 1 3 sm kR kR ?_
 simp[go_sem]
 refine rW ar cB fK ?_
 simp[go_sem,bJ.bQ]
 refine rW ai cB (wM ⟨zC rfl,zC rfl,zK,tV⟩) ?_
 simp[go_sem,bJ.bQ]
 refine pR aj ?_
 simp[go_sem]
 refine zI z ⟨om,⟨hz,n,om,hinv⟩, ?_⟩
 exact cc 3 (by simp[go_sem,rB,zB,bJ.bQ]) rfl (by simp[zB,bS,cN,cL,bJ.bQ]) dC (zD sg rfl)
theorem Sv (L:List bR) (rec:Nat->RS->PR) (o:Int) (hP:PW L rec o) (s:RS) (hs:dv L s) (ho:s.bZ=o):bN prog 291 [.ptr 0 0,.int .i64 0] [rB L s] (RR L (rec 1 s)):=by
 have aa:=hP.chain 1 (A7 _) s hs ho
 generalize rec 1 s=x at aa⊢
 refine iW 1 func291 ntmps291 results291 λc hc hb=>zM ?_
 simp[go_sem]
 refine jZ aa cB (wM ⟨zC rfl,tV⟩) ?_
 simp[go_sem,bJ.bQ]
 exact wK rfl
theorem Sw (L:List bR) (rec:Nat->RS->PR) (o:Int) (hP:PW L rec o) (s:RS) (hs:dv L s) (ho:s.bZ=o):bN prog 291 [.ptr 0 0,.int .i64 1] [rB L s] (RR L (rec 2 s)):=by
 have aa:=hP.not s hs ho
 generalize rec 2 s=x at aa⊢
 refine iW 1 func291 ntmps291 results291 λc hc hb=>zM ?_
 simp[go_sem]
 refine jZ aa cB fK ?_
 simp[go_sem,bJ.bQ]
 exact wK rfl
theorem Sx (L:List bR) (s:RS) (w:aiZ) (hw:w≠ []):(dY L s [w]= []↔dt L w s=false)/\(dt L w s=true->dY L s [w]=w):=by
 unfold dY
 cases dt L w s
 .simp[dY]
 .simp[hw]
theorem xE2 (L:List bR) (hL:eR L) (rec:Nat->RS->PR) (s:RS) (hs:dv L s) (h2:s.bZ<=200) (ak:s.bZ+1<=200->PW L rec (s.bZ+1)):
  bN prog 246 [.ptr 0 0,.int .i64 0] [rB L s] (RR L (jY L (kB L rec 0) s)):=by
 have hr:=DU L hL s hs om
 have aa:=uV hs h2
 have ab:=qQ (L:=L) s
 have al:=uT (L:=L) (s:=s)
 have ho:=hs.bZ
 have hM:jY L (kB L rec 0) s=if(yT L s).err=0 then((eV L [qP] (rec 1) L.length (rec 1 (yT L s))).1,dH (eV L [qP] (rec 1) L.length (rec 1 (yT L s))).2)else(de,dH (yT L s)):=rfl
 generalize jY L (kB L rec 0) s=M at hM⊢
 generalize yT L s=s1 at hr aa ab al hM
 have eo:=Ed (o:=s1.bZ) om om
 have ad:=Sg
 refine iV 1 func246 ntmps246 results246 λc hc hb=> ?_
 by_cases q1:s1.err=0
 rotate_left
 .have ai:(s1.err==0)=false:=sU q1
  rw[aiu q1]at hM
  rw[ai]at hr
  refine zA ?_
  simp[go_sem]
  refine pR hr ?_
  simp[go_sem,rB,eo]
  exact AR (e:=de) (s:=dH s1) hM
 have ai:(s1.err==0)=true:=sU q1
 rw[aiv q1]at hM
 rw[ai]at hr
 have hP:=ak (al q1).2
 have an:=hP.ok 1 s1 aa ab
 have ao:=Sv L rec _ hP s1 aa ab
 generalize rec 1 s1=x0 at an ao hM
 obtain⟨N,hN⟩:=eX L.length
 rw[hN]at hM
 refine zA ?_
 simp[go_sem]
 refine pR hr ?_
 simp[go_sem]
 refine jZ ao cB (wM ⟨zC rfl,tV⟩) ?_
 simp[go_sem]
 refine zH (S:=PR) [0,1,4,5] (λx=> [.ptr 0 0,.int .i64 0,.ptr 1 0,.ptr 2 0]) (λx=> [rB L x.2,zB,.box x.1.row]) (λx=>N - x.2.at_) (λx=>PI L s1 x/\ ∃n,N<=n+x.2.at_/\((eV L [qP] (rec 1) n x).1,dH (eV L [qP] (rec 1) n x).2)=M) hc hb x0 ⟨an,N,om,hM.symm⟩ ?_ ?_
 .exact cc 3 (by simp[go_sem,zB]) rfl (by simp[rB,zB,bS,cN,cL,bJ.bQ]) dC (zD sg rfl)
 rintro x ⟨hx,n,hn,hinv⟩
 have a7:=hx.cz.at_
 have ae:=jw L hL x.2 hx.cz qP
 have aq:=nB L hL x.2 hx.cz
 have af:=hx.bZ
 obtain⟨ax,ay⟩:=Sx L x.2 qP dC
 by_cases q:dt L qP x.2=false
 .rw[q]at ae
  have az:M=(x.1,dH x.2):=by
   cases n with
   |zero=>exact hinv.symm
   |succ n=>rw[eV,aiv (ax.2 q)]at hinv;exact hinv.symm
  have a1:IntKind.i64.wrap (x.2.bZ - 1)=x.2.bZ - 1:=by rw[af];exact eo
  refine zA ?_
  simp[go_sem]
  refine pC ad ?_
  simp[go_sem]
  refine pR ae ?_
  simp[go_sem,rB,a1]
  exact wK (s:=dH x.2) az
 have q:dt L qP x.2:=sU q
 rw[q]at ae
 obtain⟨n,rfl⟩: ∃m,n=m+1:=⟨n - 1,om⟩
 have ah:=ay q
 rw[eV,aiu (by rw[ah];decide),ah]at hinv
 have ar:=hx.cz.next hL q
 have hy:=hP.ok 1 (zR x.2) ar (by show x.2.bZ=_;rw[af,ab])
 have au:=Sv L rec _ hP (zR x.2) ar (by show x.2.bZ=_;rw[af,ab])
 generalize rec 1 (zR x.2)=y at hy au hinv
 have a6:=hy.up
 rw[ox]at a6
 have av: ∀e∈ [x.1,y.1],fB e:=λe he=>by
  simp only[Ae,Bf,aiJ]at he
  rcases he with rfl|rfl
  .exact hx.wide
  .exact hy.wide
 have hz:PI L s1 (ik (cE L x.2).place qP [x.1,y.1] y.2):=uS _ _ hy.cz (by rw[hy.bZ];exact af) (by have:=hx.up;omega) (λhe=>(hx.err (hy.err he).1).1) sm av
 have aj:=mE L y.2 (cE L x.2).place qP [x.1,y.1] sm av (λhe=>by
   have h1:=(hy.err he).2
   have h2:=(hx.err (hy.err he).1).2
   simp only[wL]
   omega)
 have aw:(ik (cE L x.2).place qP [x.1,y.1] y.2).2.at_=y.2.at_:=DY _ _ _ _
 generalize ik (cE L x.2).place qP [x.1,y.1] y.2=z at hz aj hinv aw
 have a8:=hz.cz.at_
 have hl:=hL.len
 have ei:IntKind.i64.wrap ((x.2.at_:Int)+1)=((x.2.at_+1:Nat):Int):=by rw[bX om om];omega
 simp only[Aj,Bq,bJ.bQ]at aj
 refine zA ?_
 simp[go_sem]
 refine pC ad ?_
 simp[go_sem]
 refine pR ae ?_
 simp[go_sem]
 refine pR aq ?_
 simp[go_sem,rB,ei]
 refine wJ [(2,0),(11,3),(13,3)] 1 3 sm kR kR ?_
 simp[go_sem]
 refine pD ad ?_
 simp[go_sem]
 refine rW au cB (wM ⟨zC rfl,tV⟩) ?_
 simp[go_sem,bJ.bQ]
 refine rW aj cB (wM ⟨zC rfl,zC rfl,zK,tV⟩) ?_
 simp[go_sem,bJ.bQ]
 refine zI z ⟨om,⟨hz,n,om,hinv⟩, ?_⟩
 exact cc 3 (by simp[go_sem,rB,zB,bJ.bQ]) rfl (by simp[zB,bS,cN,cL,bJ.bQ]) dC (zD sg rfl)
theorem xE3 (L:List bR) (hL:eR L) (rec:Nat->RS->PR) (s:RS) (hs:dv L s) (h2:s.bZ<=200) (ak:s.bZ+1<=200->PW L rec (s.bZ+1)):
  bN prog 246 [.ptr 0 0,.int .i64 1] [rB L s] (RR L (jY L (kB L rec 1) s)):=by
 have hr:=DU L hL s hs om
 have aa:=uV hs h2
 have ab:=qQ (L:=L) s
 have al:=uT (L:=L) (s:=s)
 have ho:=hs.bZ
 have hM:jY L (kB L rec 1) s=if(yT L s).err=0 then((eV L [jP] (rec 2) L.length (rec 2 (yT L s))).1,dH (eV L [jP] (rec 2) L.length (rec 2 (yT L s))).2)else(de,dH (yT L s)):=rfl
 generalize jY L (kB L rec 1) s=M at hM⊢
 generalize yT L s=s1 at hr aa ab al hM
 have eo:=Ed (o:=s1.bZ) om om
 have ad:=Sg
 refine iV 1 func246 ntmps246 results246 λc hc hb=> ?_
 by_cases q1:s1.err=0
 rotate_left
 .have ai:(s1.err==0)=false:=sU q1
  rw[aiu q1]at hM
  rw[ai]at hr
  refine zA ?_
  simp[go_sem]
  refine pR hr ?_
  simp[go_sem,rB,eo]
  exact AR (e:=de) (s:=dH s1) hM
 have ai:(s1.err==0)=true:=sU q1
 rw[aiv q1]at hM
 rw[ai]at hr
 have hP:=ak (al q1).2
 have an:=hP.ok 2 s1 aa ab
 have ao:=Sw L rec _ hP s1 aa ab
 generalize rec 2 s1=x0 at an ao hM
 obtain⟨N,hN⟩:=eX L.length
 rw[hN]at hM
 refine zA ?_
 simp[go_sem]
 refine pR hr ?_
 simp[go_sem]
 refine jZ ao cB (wM ⟨zC rfl,tV⟩) ?_
 simp[go_sem]
 refine zH (S:=PR) [0,1,4,5] (λx=> [.ptr 0 0,.int .i64 1,.ptr 1 0,.ptr 2 0]) (λx=> [rB L x.2,zB,.box x.1.row]) (λx=>N - x.2.at_) (λx=>PI L s1 x/\ ∃n,N<=n+x.2.at_/\((eV L [jP] (rec 2) n x).1,dH (eV L [jP] (rec 2) n x).2)=M) hc hb x0 ⟨an,N,om,hM.symm⟩ ?_ ?_
 .exact cc 3 (by simp[go_sem,zB]) rfl (by simp[rB,zB,bS,cN,cL,bJ.bQ]) dC (zD sg rfl)
 rintro x ⟨hx,n,hn,hinv⟩
 have a7:=hx.cz.at_
 have ae:=jw L hL x.2 hx.cz jP
 have aq:=nB L hL x.2 hx.cz
 have af:=hx.bZ
 obtain⟨ax,ay⟩:=Sx L x.2 jP dC
 by_cases q:dt L jP x.2=false
 .rw[q]at ae
  have az:M=(x.1,dH x.2):=by
   cases n with
   |zero=>exact hinv.symm
   |succ n=>rw[eV,aiv (ax.2 q)]at hinv;exact hinv.symm
  have a1:IntKind.i64.wrap (x.2.bZ - 1)=x.2.bZ - 1:=by rw[af];exact eo
  refine zA ?_
  simp[go_sem]
  refine pC ad ?_
  simp[go_sem]
  refine pR ae ?_
  simp[go_sem,rB,a1]
  exact wK (s:=dH x.2) az
 have q:dt L jP x.2:=sU q
 rw[q]at ae
 obtain⟨n,rfl⟩: ∃m,n=m+1:=⟨n - 1,om⟩
 have ah:=ay q
 rw[eV,aiu (by rw[ah];decide),ah]at hinv
 have ar:=hx.cz.next hL q
 have hy:=hP.ok 2 (zR x.2) ar (by show x.2.bZ=_;rw[af,ab])
 have au:=Sw L rec _ hP (zR x.2) ar (by show x.2.bZ=_;rw[af,ab])
 generalize rec 2 (zR x.2)=y at hy au hinv
 have a6:=hy.up
 rw[ox]at a6
 have av: ∀e∈ [x.1,y.1],fB e:=λe he=>by
  simp only[Ae,Bf,aiJ]at he
  rcases he with rfl|rfl
  .exact hx.wide
  .exact hy.wide
 have hz:PI L s1 (ik (cE L x.2).place jP [x.1,y.1] y.2):=uS _ _ hy.cz (by rw[hy.bZ];exact af) (by have:=hx.up;omega) (λhe=>(hx.err (hy.err he).1).1) sm av
 have aj:=mE L y.2 (cE L x.2).place jP [x.1,y.1] sm av (λhe=>by
   have h1:=(hy.err he).2
   have h2:=(hx.err (hy.err he).1).2
   simp only[wL]
   omega)
 have aw:(ik (cE L x.2).place jP [x.1,y.1] y.2).2.at_=y.2.at_:=DY _ _ _ _
 generalize ik (cE L x.2).place jP [x.1,y.1] y.2=z at hz aj hinv aw
 have a8:=hz.cz.at_
 have hl:=hL.len
 have ei:IntKind.i64.wrap ((x.2.at_:Int)+1)=((x.2.at_+1:Nat):Int):=by rw[bX om om];omega
 simp only[Aj,Bq,bJ.bQ]at aj
 refine zA ?_
 simp[go_sem]
 refine pC ad ?_
 simp[go_sem]
 refine pR ae ?_
 simp[go_sem]
 refine pR aq ?_
 simp[go_sem,rB,ei]
 refine wJ [(2,0),(11,3),(13,3)] 1 3 sm kR kR ?_
 simp[go_sem]
 refine pD ad ?_
 simp[go_sem]
 refine rW au cB (wM ⟨zC rfl,tV⟩) ?_
 simp[go_sem,bJ.bQ]
 refine rW aj cB (wM ⟨zC rfl,zC rfl,zK,tV⟩) ?_
 simp[go_sem,bJ.bQ]
 refine zI z ⟨om,⟨hz,n,om,hinv⟩, ?_⟩
 exact cc 3 (by simp[go_sem,rB,zB,bJ.bQ]) rfl (by simp[zB,bS,cN,cL,bJ.bQ]) dC (zD sg rfl)
theorem KA {x:bJ} (h:fB x): ∀e∈ [x],fB e:=λe he=>by
 simp only[Ae,Bf,aiJ]at he
 subst he
 exact h
theorem wq4 {x y:bJ} (h:fB x) (h2:fB y): ∀e∈ [x,y],fB e:=λe he=>by
 simp only[Ae,Bf,aiJ]at he
 rcases he with rfl|rfl
 .exact h
 .exact h2
theorem wt3 (L:List bR) (hL:eR L) (rec:Nat->RS->PR) (s:RS) (hs:dv L s) (h2:s.bZ<=200) (ak:s.bZ+1<=200->PW L rec (s.bZ+1)):
  bN prog 317 [.ptr 0 0] [rB L s] (RR L (jY L (kB L rec 2) s)):=by
 have hr:=DU L hL s hs om
 have aa:=uV hs h2
 have ad:=qQ (L:=L) s
 have al:=uT (L:=L) (s:=s)
 have ho:=hs.bZ
 have hM:jY L (kB L rec 2) s=if(yT L s).err=0 then((nD L (rec 2) (rec 3) (yT L s)).1,dH (nD L (rec 2) (rec 3) (yT L s)).2)else(de,dH (yT L s)):=rfl
 generalize jY L (kB L rec 2) s=M at hM⊢
 generalize yT L s=s1 at hr aa ad al hM
 have eo:=Ed (o:=s1.bZ) om om
 refine iW 1 func317 ntmps317 results317 λc hc hb=>zM ?_
 by_cases q1:s1.err=0
 rotate_left
 .have ah:(s1.err==0)=false:=sU q1
  rw[aiu q1]at hM
  rw[ah]at hr
  simp[go_sem]
  refine pR hr ?_
  simp[go_sem,rB,eo]
  exact AR (e:=de) (s:=dH s1) hM
 have ah:(s1.err==0)=true:=sU q1
 rw[aiv q1]at hM
 rw[ah]at hr
 have hP:=ak (al q1).2
 have af:=nB L hL s1 aa
 have ab:=DS L hL s1 aa kh
 unfold nD at hM
 unfold mD at ab
 by_cases q:dt L kh s1=true
 .rw[aiv q]at hM
  rw[aiv q,q]at ab
  have an:=aa.next hL q
  have hy:=hP.ok 2 (zR s1) an ad
  have ae:=hP.not (zR s1) an ad
  generalize rec 2 (zR s1)=y at hy ae hM
  have ai:=mE L y.2 (cE L s1).place kh [y.1] sm (KA hy.wide) (λhe=>by
   have h1:=(hy.err he).2
   simp only[wL]
   omega)
  have ao:(ik (cE L s1).place kh [y.1] y.2).2.bZ=s1.bZ:=by
   show(nC _ _ _ y.2).bZ=_
   rw[Kx,hy.bZ];rfl
  generalize ik (cE L s1).place kh [y.1] y.2=z at ai hM ao
  have aj:IntKind.i64.wrap (z.2.bZ - 1)=z.2.bZ - 1:=by rw[ao];exact eo
  simp only[Aj,Bq,bJ.bQ]at ai
  simp[go_sem]
  refine pR hr ?_
  simp[go_sem]
  refine pR af ?_
  simp[go_sem]
  refine pR ab ?_
  simp[go_sem]
  refine jZ ae cB fK ?_
  simp[go_sem,bJ.bQ]
  refine jZ ai cB (wM ⟨zC rfl,zC rfl,zK,tV⟩) ?_
  simp[go_sem,rB,bJ.bQ,aj]
  exact wK (s:=dH z.2) hM
 .have q:dt L kh s1=false:=sU q
  rw[aiu (by rw[q];decide)]at hM
  rw[aiu (by rw[q];decide),q]at ab
  have hy:=hP.ok 3 s1 aa ad
  have ae:=hP.cmp s1 aa ad
  generalize rec 3 s1=z at hy ae hM
  have aj:IntKind.i64.wrap (z.2.bZ - 1)=z.2.bZ - 1:=by rw[hy.bZ];exact eo
  simp[go_sem]
  refine pR hr ?_
  simp[go_sem]
  refine pR af ?_
  simp[go_sem]
  refine pR ab ?_
  simp[go_sem]
  refine jZ ae cB fK ?_
  simp[go_sem,rB,bJ.bQ,aj]
  exact wK (s:=dH z.2) hM
theorem xC6 (L:List bR) (s:RS) (w:aiZ) (ws:List aiZ) (h:dt L w s):dY L s (w::ws)=w:=by unfold dY;rw[aiv h]
theorem xs3 (L:List bR) (s:RS) (w:aiZ) (ws:List aiZ) (h:dt L w s=false):dY L s (w::ws)=dY L s ws:=by unfold dY;rw[aiu (by rw[h];decide)];cases ws<;>rfl
theorem xz5: ∀w∈fV,w≠ []:=dC
theorem ws1 (L:List bR) (hL:eR L) (rec:Nat->RS->PR) (s:RS) (hs:dv L s) (h2:s.bZ<=200) (ay:s.bZ+1<=200->PW L rec (s.bZ+1)):
  bN prog 329 [.ptr 0 0] [rB L s] (RR L (jY L (kB L rec 3) s)):=by
 have hr:=DU L hL s hs om
 have ai:=uV hs h2
 have aj:=qQ (L:=L) s
 have az:=uT (L:=L) (s:=s)
 have ho:=hs.bZ
 have hM:jY L (kB L rec 3) s=if(yT L s).err=0 then((nE L (rec 4) (rec 4 (yT L s))).1,dH (nE L (rec 4) (rec 4 (yT L s))).2)else(de,dH (yT L s)):=rfl
 generalize jY L (kB L rec 3) s=M at hM⊢
 generalize yT L s=s1 at hr ai aj az hM
 have eo:=Ed (o:=s1.bZ) om om
 refine iV 1 func329 ntmps329 results329 λc hc hb=> ?_
 by_cases q1:s1.err=0
 rotate_left
 .have aw:(s1.err==0)=false:=sU q1
  rw[aiu q1]at hM
  rw[aw]at hr
  refine zA ?_
  simp[go_sem]
  refine pR hr ?_
  simp[go_sem,rB,eo]
  exact AR (e:=de) (s:=dH s1) hM
 have aw:(s1.err==0)=true:=sU q1
 rw[aiv q1]at hM
 rw[aw]at hr
 have hP:=ay (az q1).2
 have hx:=hP.ok 4 s1 ai aj
 have au:=hP.sum s1 ai aj
 generalize rec 4 s1=x at hx au hM
 have ak:=nB L hL x.2 hx.cz
 have aa:=DS L hL x.2 hx.cz Ku
 have af:=hx.bZ
 unfold nE at hM
 unfold mD at aa
 by_cases q:dt L Ku x.2=true
 .rw[aiv q]at hM
  rw[aiv q,q]at aa
  have ah:=hx.cz.next hL q
  have ab:=DS L hL (zR x.2) ah kh
  unfold mD at ab
  by_cases q2:dt L kh (zR x.2)=true
  .rw[aiv q2]at hM
   rw[aiv q2,q2]at ab
   have a8:=ah.next hL q2
   have al:=lv L hL _ a8 o7
   have an:=Eb (L:=L) o7 (zR (zR x.2))
   have ao:=wy (L:=L) (w:=o7) (s:=zR (zR x.2))
   generalize yI L o7 (zR (zR x.2))=u at al an ao hM
   have ax:u.bZ=s1.bZ:=by rw[an];exact af
   have ae:IntKind.i64.wrap (u.bZ - 1)=u.bZ - 1:=by rw[ax];exact eo
   have ad:=mE L (dH u) (cE L x.2).place Kw [x.1] sm (KA hx.wide) (λhe=>by
    have h1:=(hx.err (ao he).1).2
    simp only[wL]
    omega)
   have aq:M=ik (cE L x.2).place Kw [x.1] (dH u):=by rw[hM];unfold ik;rw[Sj]
   clear hM
   generalize ik (cE L x.2).place Kw [x.1] (dH u)=z at ad aq
   simp only[Aj,Bq,bJ.bQ]at ad
   refine zA ?_
   simp[go_sem]
   refine pR hr ?_
   simp[go_sem]
   refine jZ au cB fK ?_
   simp[go_sem,bJ.bQ]
   refine pR ak ?_
   simp[go_sem]
   refine pR aa ?_
   simp[go_sem]
   refine pR ab ?_
   simp[go_sem]
   refine pR al ?_
   simp[go_sem,rB,ae]
   refine jZ (s:=dH u) ad cB (wM ⟨zC rfl,zC rfl,zK,tV⟩) ?_
   simp[go_sem,bJ.bQ]
   exact wK aq
  .have q2:dt L kh (zR x.2)=false:=sU q2
   rw[aiu (by rw[q2];decide)]at hM
   rw[aiu (by rw[q2];decide),q2]at ab
   have al:=lv L hL _ ah o7
   have an:=Eb (L:=L) o7 (zR x.2)
   have ao:=wy (L:=L) (w:=o7) (s:=zR x.2)
   generalize yI L o7 (zR x.2)=u at al an ao hM
   have ax:u.bZ=s1.bZ:=by rw[an];exact af
   have ae:IntKind.i64.wrap (u.bZ - 1)=u.bZ - 1:=by rw[ax];exact eo
   have ad:=mE L (dH u) (cE L x.2).place Kv [x.1] sm (KA hx.wide) (λhe=>by
    have h1:=(hx.err (ao he).1).2
    simp only[wL]
    omega)
   have aq:M=ik (cE L x.2).place Kv [x.1] (dH u):=by rw[hM];unfold ik;rw[Sj]
   clear hM
   generalize ik (cE L x.2).place Kv [x.1] (dH u)=z at ad aq
   simp only[Aj,Bq,bJ.bQ]at ad
   refine zA ?_
   simp[go_sem]
   refine pR hr ?_
   simp[go_sem]
   refine jZ au cB fK ?_
   simp[go_sem,bJ.bQ]
   refine pR ak ?_
   simp[go_sem]
   refine pR aa ?_
   simp[go_sem]
   refine pR ab ?_
   simp[go_sem]
   refine pR al ?_
   simp[go_sem,rB,ae]
   refine jZ (s:=dH u) ad cB (wM ⟨zC rfl,zC rfl,zK,tV⟩) ?_
   simp[go_sem,bJ.bQ]
   exact wK aq
 have q:dt L Ku x.2=false:=sU q
 rw[aiu (by rw[q];decide)]at hM
 rw[aiu (by rw[q];decide),q]at aa
 refine zA ?_
 simp[go_sem]
 refine pR hr ?_
 simp[go_sem]
 refine jZ au cB fK ?_
 simp[go_sem,bJ.bQ]
 refine pR ak ?_
 simp[go_sem]
 refine pR aa ?_
 simp[go_sem]
 refine zH (S:=Nat) [0,2,3,4,5,7] (λi=> [.ptr 0 0,.ptr 1 0,.ptr 2 0,.int .i64 (cE L x.2).place,.sl .ro (fV.map λw=> [V.str w]),.int .i64 (i:Int)]) (λ_=> [rB L x.2,zB,.box x.1.row]) (λi=>6 - i) (λi=>i<=6/\dY L x.2 (fV.drop i)=dY L x.2 fV) hc hb 0 ⟨A3 _,rfl⟩ ?_ ?_
 .exact cc 3 (by simp[go_sem,zB,bJ.bQ]) rfl (by simp[rB,zB,bS,cN,cL,bJ.bQ]) dC ⟨xQ (by rfl),xQ (by rfl),xQ (by rfl),zC rfl,zK,zC rfl,tV⟩
 rintro i ⟨hi,hinv⟩
 by_cases qi:i<6
 rotate_left
 .obtain rfl:i=6:=om
  have ha:dY L x.2 fV= []:=by rw[<-hinv];rfl
  rw[aiv ha]at hM
  have ae:IntKind.i64.wrap (x.2.bZ - 1)=x.2.bZ - 1:=by rw[af];exact eo
  refine zA ?_
  simp[go_sem,fV,rB,ae,bJ.bQ]
  exact wK (s:=dH x.2) hM
 have ar:i<fV.length:=qi
 obtain⟨w,hw⟩:=eX (fV[i])
 have aA:w∈fV:=hw▸A8 ar
 have aB:=xz5 w aA
 rw[A5 ar,hw]at hinv
 have aa:=DS L hL x.2 hx.cz w
 unfold mD at aa
 have a1:decide ((i:Int)<6)=true:=aix om
 have ei:=zQ qi dC
 have av:(fV.length:Int)=6:=rfl
 by_cases qw:dt L w x.2=true
 rotate_left
 .have qw:dt L w x.2=false:=sU qw
  rw[xs3 L x.2 w _ qw]at hinv
  rw[aiu (by rw[qw];decide),qw]at aa
  refine zA ?_
  simp[go_sem,av,a1,ar,hw]
  refine zJ om ?_
  simp[go_sem]
  refine pR aa ?_
  simp[go_sem,ei]
  refine zI (i+1) ⟨om,⟨om,hinv⟩, ?_⟩
  exact cc 3 (by simp[go_sem,rB,zB,bJ.bQ]) rfl (by simp[rB,zB,bS,cN,cL,bJ.bQ]) dC (zD sg rfl)
 rw[xC6 L x.2 w _ qw]at hinv
 rw[aiu (by rw[<-hinv];exact aB),<-hinv]at hM
 rw[aiv qw,qw]at aa
 have ah:=hx.cz.next hL qw
 have hy:=hP.ok 4 (zR x.2) ah (by show x.2.bZ=_;rw[af,aj])
 have a6:=hP.sum (zR x.2) ah (by show x.2.bZ=_;rw[af,aj])
 generalize rec 4 (zR x.2)=y at hy a6 hM
 have ad:=mE L y.2 (cE L x.2).place w [x.1,y.1] sm (wq4 hx.wide hy.wide) (λhe=>by
   have h1:=(hy.err he).2
   have h2:=(hx.err (hy.err he).1).2
   simp only[wL]
   omega)
 have a7:(ik (cE L x.2).place w [x.1,y.1] y.2).2.bZ=s1.bZ:=by
  show(nC _ _ _ y.2).bZ=_
  rw[Kx,hy.bZ];exact af
 generalize ik (cE L x.2).place w [x.1,y.1] y.2=z at ad hM a7
 have ae:IntKind.i64.wrap (z.2.bZ - 1)=z.2.bZ - 1:=by rw[a7];exact eo
 simp only[Aj,Bq,bJ.bQ]at ad
 refine zA ?_
 simp[go_sem,av,a1,ar,hw]
 refine zJ om ?_
 simp[go_sem]
 refine pR aa ?_
 simp[go_sem]
 refine wJ [(8,3),(10,3)] 1 3 sm kR kR ?_
 simp[go_sem,ar,hw]
 refine rW a6 cB fK ?_
 simp[go_sem,bJ.bQ]
 refine rW ad cB (wM ⟨zC rfl,zC rfl,zK,tV⟩) ?_
 simp[go_sem,rB,bJ.bQ,ae]
 exact wK (s:=dH z.2) hM
theorem HO (v:bK):Pure prog 339 [.agg v.row] (.agg (kg v).row):=by
 refine iW 0 func339 ntmps339 results339 λc hc hb=>zM ?_
 simp[go_sem]
 exact zW (r:= .agg [.int .i64 1,.str [],.int .i64 v.kind,.int .i64 v.n,.str v.s,.sl .ro []]) (wN ⟨zF rfl,zF rfl,zF rfl,zF rfl,zF rfl,zX,tV⟩) ⟨rfl,rfl⟩
theorem xS (L:List bR) (hL:eR L) (s:RS) (hs:dv L s) (w:aiZ) (h:dt L w s):bN prog 67 [.ptr 0 0,.str w] [rB L s] (λr I=>r= .bool true/\I= [rB L (zR s)]):=by
 have:=DS L hL s hs w
 unfold mD at this
 rw[aiv h,h]at this
 exact this
theorem wS (L:List bR) (hL:eR L) (s:RS) (hs:dv L s) (w:aiZ) (h:dt L w s=false):bN prog 67 [.ptr 0 0,.str w] [rB L s] (λr I=>r= .bool false/\I= [rB L s]):=by
 have:=DS L hL s hs w
 unfold mD at this
 rw[aiu (by rw[h];decide),h]at this
 exact this
theorem wk5 (L:List bR) (hL:eR L) (rec:Nat->RS->PR) (s:RS) (hs:dv L s) (hP:PW L rec s.bZ)
  (hex: ∀s',dv L s'->s'.bZ=s.bZ->bN prog 186 [.ptr 0 0] [rB L s'] (RR L (rec 0 s'))):
  bN prog 338 [.ptr 0 0] [rB L s] (RR L (tz L (rec 6) (rec 0) s)):=by
 generalize hM:tz L (rec 6) (rec 0) s=M
 unfold tz at hM
 have ab:=nB L hL s hs
 have ao:=hs.at_
 have hl:=hL.len
 have ei:IntKind.i64.wrap ((s.at_:Int)+1)=((s.at_+1:Nat):Int):=by rw[bX om om];omega
 have ah:=DT L hL s hs
 refine iW 1 func338 ntmps338 results338 λc hc hb=>zM ?_
 by_cases q1:dt L [45] s=true
 .rw[aiv q1]at hM
  have al:=xS L hL s hs _ q1
  have ad:=hs.next hL q1
  have hy:=hP.ok 6 (zR s) ad rfl
  have ae:=hP.unary (zR s) ad rfl
  generalize rec 6 (zR s)=y at hy ae hM
  have ai:=mE L y.2 (cE L s).place [78,69,71] [y.1] sm (KA hy.wide) (λhe=>by
   have h1:=(hy.err he).2
   simp only[wL]
   omega)
  generalize ik (cE L s).place [78,69,71] [y.1] y.2=z at ai hM
  simp only[Aj,Bq,bJ.bQ]at ai
  simp[go_sem]
  refine pR ab ?_
  simp[go_sem]
  refine pR al ?_
  simp[go_sem]
  refine wJ [(4,3),(6,3)] 1 3 sm kR kR ?_
  simp[go_sem]
  refine rW ae cB fK ?_
  simp[go_sem,bJ.bQ]
  refine rW ai cB (wM ⟨zC rfl,zC rfl,zK,tV⟩) ?_
  simp[go_sem,bJ.bQ]
  exact wK hM.symm
 have q1:dt L [45] s=false:=sU q1
 rw[aiu (by rw[q1];decide)]at hM
 have af:=wS L hL s hs _ q1
 by_cases q2:dt L [40] s=true
 .rw[aiv q2]at hM
  have aa:=xS L hL s hs _ q2
  have ad:=hs.next hL q2
  have hy:=hP.ok 0 (zR s) ad rfl
  have ae:=hex (zR s) ad rfl
  generalize rec 0 (zR s)=y at hy ae hM
  have an:=lv L hL y.2 hy.cz [41]
  generalize yI L [41] y.2=u at an hM
  simp[go_sem]
  refine pR ab ?_
  simp[go_sem]
  refine pR af ?_
  simp[go_sem]
  refine pR aa ?_
  simp[go_sem]
  refine jZ ae cB fK ?_
  simp[go_sem,bJ.bQ]
  refine pR an ?_
  simp[go_sem]
  exact wK hM.symm
 have q2:dt L [40] s=false:=sU q2
 rw[aiu (by rw[q2];decide)]at hM
 have aa:=wS L hL s hs _ q2
 simp[go_sem]
 refine pR ab ?_
 simp[go_sem]
 refine pR af ?_
 simp[go_sem]
 refine pR aa ?_
 simp[go_sem]
 by_cases q3:dt L [84,82,85,69] s=true
 .rw[aiv q3]at hM
  have hv:=HO ⟨1,1,[]⟩
  simp only[bJ.bQ,bK.row]at hv
  refine pR (xS L hL s hs _ q3) ?_
  simp[go_sem]
  refine pC hv ?_
  simp[go_sem]
  exact wK (e:=kg ⟨1,1,[]⟩) (s:=zR s) hM.symm
 have q3:dt L [84,82,85,69] s=false:=sU q3
 rw[aiu (by rw[q3];decide)]at hM
 refine pR (wS L hL s hs _ q3) ?_
 simp[go_sem]
 by_cases q4:dt L [70,65,76,83,69] s=true
 .rw[aiv q4]at hM
  have hv:=HO ⟨1,0,[]⟩
  simp only[bJ.bQ,bK.row]at hv
  refine pR (xS L hL s hs _ q4) ?_
  simp[go_sem]
  refine pC hv ?_
  simp[go_sem]
  exact wK (e:=kg ⟨1,0,[]⟩) (s:=zR s) hM.symm
 have q4:dt L [70,65,76,83,69] s=false:=sU q4
 rw[aiu (by rw[q4];decide)]at hM
 refine pR (wS L hL s hs _ q4) ?_
 simp[go_sem]
 by_cases q5:dt L o7 s=true
 .rw[aiv q5]at hM
  have hv:=HO ⟨0,0,[]⟩
  simp only[bJ.bQ,bK.row]at hv
  refine pR (xS L hL s hs _ q5) ?_
  simp[go_sem]
  refine pC hv ?_
  simp[go_sem]
  exact wK (e:=kg ⟨0,0,[]⟩) (s:=zR s) hM.symm
 have q5:dt L o7 s=false:=sU q5
 rw[aiu (by rw[q5];decide)]at hM
 refine pR (wS L hL s hs _ q5) ?_
 simp[go_sem]
 obtain⟨t,ht⟩:=eX (cE L s)
 rw[ht]at hM
 rw[ht]
 by_cases q6:t.kind=2
 .rw[aiv q6]at hM
  have hv:=HO ⟨2,t.n,[]⟩
  simp only[bJ.bQ,bK.row]at hv
  have aj:(t.kind==2)=true:=sU q6
  simp[go_sem,aj,rB,ei]
  refine pC hv ?_
  simp[go_sem]
  exact wK (e:=kg ⟨2,t.n,[]⟩) (s:=zR s) hM.symm
 rw[aiu q6]at hM
 have aj:(t.kind==2)=false:=sU q6
 simp[go_sem,aj]
 by_cases q7:t.kind=3
 .rw[aiv q7]at hM
  have hv:=HO ⟨3,0,t.s⟩
  simp only[bJ.bQ,bK.row]at hv
  have ak:(t.kind==3)=true:=sU q7
  simp[go_sem,ak,rB,ei]
  refine pC hv ?_
  simp[go_sem]
  exact wK (e:=kg ⟨3,0,t.s⟩) (s:=zR s) hM.symm
 rw[aiu q7]at hM
 have ak:(t.kind==3)=false:=sU q7
 simp[go_sem,ak]
 refine pR ah ?_
 simp[go_sem]
 exact AR (e:=DW (xC L s).1) (s:=(xC L s).2) hM.symm
theorem we7 (L:List bR) (hL:eR L) (rec:Nat->RS->PR) (s:RS) (hs:dv L s) (h2:s.bZ<=200) (af:s.bZ+1<=200->PW L rec (s.bZ+1))
  (hex:s.bZ+1<=200-> ∀s',dv L s'->s'.bZ=s.bZ+1->bN prog 186 [.ptr 0 0] [rB L s'] (RR L (rec 0 s'))):
  bN prog 337 [.ptr 0 0] [rB L s] (RR L (jY L (kB L rec 6) s)):=by
 have hr:=DU L hL s hs om
 have aa:=uV hs h2
 have ad:=qQ (L:=L) s
 have ah:=uT (L:=L) (s:=s)
 have ho:=hs.bZ
 have hM:jY L (kB L rec 6) s=if(yT L s).err=0 then((tz L (rec 6) (rec 0) (yT L s)).1,dH (tz L (rec 6) (rec 0) (yT L s)).2)else(de,dH (yT L s)):=rfl
 generalize jY L (kB L rec 6) s=M at hM⊢
 generalize yT L s=s1 at hr aa ad ah hM
 have eo:=Ed (o:=s1.bZ) om om
 refine iW 1 func337 ntmps337 results337 λc hc hb=>zM ?_
 by_cases q1:s1.err=0
 rotate_left
 .have ae:(s1.err==0)=false:=sU q1
  rw[aiu q1]at hM
  rw[ae]at hr
  simp[go_sem]
  refine pR hr ?_
  simp[go_sem,rB,eo]
  exact AR (e:=de) (s:=dH s1) hM
 have ae:(s1.err==0)=true:=sU q1
 rw[aiv q1]at hM
 rw[ae]at hr
 have ab:=(ah q1).2
 have hP:PW L rec s1.bZ:=by rw[ad];exact af ab
 have cQ:=Ss hL (hP.ok 6) (hP.ok 0) s1 aa rfl
 have ai:=wk5 L hL rec s1 aa hP (λs' h1 h2=>hex ab s' h1 (by rw[h2,ad]))
 generalize tz L (rec 6) (rec 0) s1=z at cQ ai hM
 have aj:IntKind.i64.wrap (z.2.bZ - 1)=z.2.bZ - 1:=by rw[cQ.bZ];exact eo
 simp[go_sem]
 refine pR hr ?_
 simp[go_sem]
 refine jZ ai cB fK ?_
 simp[go_sem,rB,bJ.bQ,aj]
 exact wK (s:=dH z.2) hM
theorem Sy (L:List bR) (s:RS) (x:PR) (aa:bN prog 246 [.ptr 0 0,.int .i64 0] [rB L s] (RR L x)):bN prog 186 [.ptr 0 0] [rB L s] (RR L x):=by
 refine iW 1 func186 ntmps186 results186 λc hc hb=>zM ?_
 simp[go_sem]
 refine jZ aa cB (wM ⟨zC rfl,tV⟩) ?_
 simp[go_sem,bJ.bQ]
 exact wK rfl
theorem Sz (L:List bR) (hL:eR L): ∀(f:Nat) (o:Int),o<=200->201<=(f:Int)+o->PW L (pF L f) o
 |0,o,h,hf=>by omega
 |f+1,o,h,hf=>by
  have ih: ∀s:RS,s.bZ=o->s.bZ+1<=200->PW L (pF L f) (s.bZ+1):=λs hs h1=>Sz L hL f (s.bZ+1) h1 (by push_cast at hf;omega)
  have aa: ∀s:RS,s.bZ=o->s.bZ+1<=200-> ∀s',dv L s'->s'.bZ=s.bZ+1->bN prog 186 [.ptr 0 0] [rB L s'] (RR L (pF L f 0 s')):=λs hs h1 s' h2 h3=>Sy L s' _ ((ih s hs h1).chain 0 (A3 _) s' h2 h3)
  refine⟨λw s hs ho=>Kz hL (f+1) w s hs om (by push_cast at hf⊢;omega),λk hk s hs ho=> ?_,λs hs ho=> ?_,λs hs ho=> ?_,λs hs ho=> ?_,λs hs ho=> ?_,λs hs ho=> ?_⟩
  .have hk:k=0\/k=1:=om
   rcases hk with rfl|rfl
   .exact xE2 L hL (pF L f) s hs om (ih s ho)
   .exact xE3 L hL (pF L f) s hs om (ih s ho)
  .exact wt3 L hL (pF L f) s hs om (ih s ho)
  .exact ws1 L hL (pF L f) s hs om (ih s ho)
  .exact wu1 L hL (pF L f) s hs om (ih s ho)
  .exact wo6 L hL (pF L f) s hs om (ih s ho)
  .exact we7 L hL (pF L f) s hs om (ih s ho) (aa s ho)
def iZ (L:List bR) (s:RS):PR:=pF L 201 0 s
theorem NS {L:List bR} (hL:eR L) {s:RS} (hs:dv L s) (ho:s.bZ=0):PI L s (iZ L s):=Kz hL 201 0 s hs om om
theorem tC (L:List bR) (hL:eR L) (s:RS) (hs:dv L s) (ho:s.bZ=0):bN prog 186 [.ptr 0 0] [rB L s] (RR L (iZ L s)):=
 Sy L s _ ((Sz L hL 201 0 dC dC).chain 0 (A3 _) s hs ho)
mutual
def lW:bJ->Nat
 | .mk _ _ _ args=>mW args+1
def mW:List bJ->Nat
 | []=>0
 |e::l=>lW e+mW l
end
variable {e:bJ}{w:aiZ}{o:Int}{n:Int}
theorem Ee (e:bJ):lW e=mW e.args+1:=by cases e;rfl
theorem NT: ∀(l:List bJ) (e:bJ),e∈l->lW e<=mW l
 | [],_,h=>by grind
 |x::l,e,h=>by
  rw[mW]
  rcases Ae.1 h with rfl|h
  .omega
  .have:=NT l e h;omega
inductive Good:bJ->Prop
 |mk (e:bJ) (hk:cI e.kind) (hs:e.s.length<=1048576) (hv:e.v.ok) (hn:e.v.s.length<=1048576) (ha: ∀x∈e.args,Good x):Good e
theorem Good.str (h:Good e):e.s.length<=1048576:=by cases h;omega
theorem Good.v (h:Good e):e.v.ok:=by cases h;omega
theorem Good.sub (h:Good e): ∀x∈e.args,Good x:=by cases h;omega
theorem KB:(⟨0,0,[]⟩:bK).ok:=⟨dC,dC,dC⟩
theorem xZ0 (h:0<=n/\n<=9223372036854775807):(⟨2,n,[]⟩:bK).ok:=⟨sm,by grind,sm⟩
theorem we5 {s:aiZ} (h:s.length<=1048576):(⟨3,0,s⟩:bK).ok:=⟨sm,sm,by grind[maxLen]⟩
theorem xY4 {a:List bJ} (h:w.length<=1048576) (ha: ∀x∈a,Good x):Good (qN w a):= .mk _ (by show cI 3;decide) h KB (A3 _) ha
theorem HP {v:bK} (h:v.ok) (h2:v.s.length<=1048576):Good (kg v):= .mk _ (by show cI 1;decide) (A3 _) h h2 (λx hx=>by cases hx)
theorem xI1 (h:w.length<=1048576):Good (DW w):= .mk _ (by show cI 2;decide) h KB (A3 _) (λx hx=>by cases hx)
theorem SA:Good de:= .mk _ dC dC KB dC (λx hx=>by cases hx)
theorem KC {x:bJ} (h:Good x): ∀e∈ [x],Good e:=(by grind)
theorem SB {x y:bJ} (h:Good x) (h2:Good y): ∀e∈ [x,y],Good e:=(by grind)
structure gN (L:List bR):Prop where
 wx: ∀t∈L,t.s.length<=1048576
 num: ∀t∈L,0<=t.n/\t.n<=9223372036854775807
variable {L:List bR}
theorem F2 {s:RS} (hs:dv L s):cE L s∈L:=by
 unfold cE
 rw[Al,A0 hs.at_]
 simp
theorem SD (hG:gN L) {s:RS} (hs:dv L s) (h:dt L w s):w.length<=1048576:=by
 have:=hG.wx _ (F2 hs)
 simp_all[dt]
theorem wz (hG:gN L) {s:RS} (hs:dv L s):(xC L s).1.length<=1048576:=by
 unfold xC
 split
 .exact hG.wx _ (F2 hs)
 simp
structure PJ (s:RS) (x:PR):Prop where
 dS:Good x.1
 size:x.2.err=0->lW x.1+s.at_<=x.2.at_
abbrev PK (L:List bR) (s:RS) (x:PR):Prop:=PI L s x/\PJ s x
theorem wc9 (w:aiZ) (a:List bJ):lW (qN w a)=mW a+1:=Ee _
theorem KD (x:bJ):mW [x]=lW x:=by rfl
theorem SF (x y:bJ):mW [x,y]=lW x+lW y:=by rfl
theorem xz6 (h:e.args= []):lW e=1:=by rw[Ee,h];rfl
theorem F3 {s0 s:RS} (p:Int) {a:List bJ} (h1:w.length<=1048576) (h2: ∀x∈a,Good x) (h3:s.err=0->mW a+1+s0.at_<=s.at_):PJ s0 (ik p w a s):=
 ⟨xY4 h1 h2,λhe=>by
  have h:=NQ (p:=p) (w:=w) (a:=a) (s:=s) he
  show lW (qN w a)+s0.at_<=(nC p w a s).at_
  grind[DY,wc9]⟩
theorem HQ (hL:eR L) (hG:gN L) {o:Int} {sub:RS->PR} (ab: ∀s,dv L s->s.bZ=o->PK L s (sub s)) (ws:List aiZ) {s0:RS}: ∀(n:Nat) (x:PR),PK L s0 x->s0.bZ=o->PJ s0 (eV L ws sub n x)
 |0,x,h,_=>h.2
 |n+1,x,h,ho=>by
  have aa:=F1 hL (λs h1 h2=>(ab s h1 h2).1) ws 1 x h.1 ho
  unfold eV
  unfold eV at aa
  split
  .grind
  rename_i ad
  rw[aiu ad]at aa
  have hi:=DZ ad
  have hx:=h.1.bZ
  have hy:=ab (zR x.2) (h.1.cz.next hL hi) (by show x.2.bZ=o;omega)
  have hl:=SD hG h.1.cz hi
  have aa:PI L s0 (ik (cE L x.2).place (dY L x.2 ws) [x.1,(sub (zR x.2)).1] (sub (zR x.2)).2):=aa
  refine HQ hL hG ab ws n _ ⟨aa,F3 _ hl (SB h.2.dS hy.2.dS) (λhe=> ?_)⟩ ho
  have h1:=hy.2.size he
  have h2:=h.2.size (hy.1.err he).1
  grind[ox,SF]
theorem wn4 (hL:eR L) (_hG:gN L) {rn rc:RS->PR} (h1: ∀s,dv L s->s.bZ=o->PK L s (rn s)) (h2: ∀s,dv L s->s.bZ=o->PK L s (rc s)) (s:RS) (hs:dv L s) (ho:s.bZ=o):PJ s (nD L rn rc s):=by
 unfold nD
 split
 .rename_i hi
  have hy:=h1 (zR s) (hs.next hL hi) ho
  refine F3 _ dC (KC hy.2.dS) (λhe=> ?_)
  have h:=hy.2.size he
  grind[ox,KD]
 grind
theorem wl0 (hL:eR L) (hG:gN L) {sub:RS->PR} (aa: ∀s,dv L s->s.bZ=o->PK L s (sub s)) (s:RS) (ho:s.bZ=o) (x:PR) (h:PK L s x):PJ s (nE L sub x):=by
 have hx:=h.1.bZ
 unfold nE
 split
 .rename_i hi
  split
  .rename_i ad
   refine F3 _ dC (KC h.2.dS) (λhe=> ?_)
   have h1:=h.2.size (wy he).1
   grind[Ea,ox,KD]
  .refine F3 _ dC (KC h.2.dS) (λhe=> ?_)
   have h1:=h.2.size (wy he).1
   grind[Ea,ox,KD]
 .split
  .grind
  rename_i ab
  have hi:=DZ ab
  have hy:=aa (zR x.2) (h.1.cz.next hL hi) (by show x.2.bZ=o;omega)
  have hl:=SD hG h.1.cz hi
  refine F3 _ hl (SB h.2.dS hy.2.dS) (λhe=> ?_)
  have h1:=hy.2.size he
  have h2:=h.2.size (hy.1.err he).1
  grind[ox,SF]
theorem F4 {s s2:RS} (ha:e.args= []) (h:Good e) (h2:s2.err=0->s2.at_=s.at_+1):PJ s (e,s2):=⟨h,(by grind[xz6])⟩
theorem xW3 (hL:eR L) (hG:gN L) {un ex:RS->PR} (h1: ∀s,dv L s->s.bZ=o->PK L s (un s)) (h2: ∀s,dv L s->s.bZ=o->PK L s (ex s)) (s:RS) (hs:dv L s) (ho:s.bZ=o):PJ s (tz L un ex s):=by
 have hm:=F2 hs
 unfold tz
 split
 .rename_i hi
  have hy:=h1 (zR s) (hs.next hL hi) ho
  refine F3 _ dC (KC hy.2.dS) (λhe=> ?_)
  have h:=hy.2.size he
  grind[ox,KD]
 split
 .rename_i hi
  have hy:=h2 (zR s) (hs.next hL hi) ho
  refine⟨hy.2.dS,λhe=> ?_⟩
  have h:=hy.2.size (wy he).1
  grind[Ea,ox]
 split
 .exact F4 rfl (HP ⟨dC,dC,dC⟩ sm) (λ_=>rfl)
 split
 .exact F4 rfl (HP ⟨dC,dC,dC⟩ sm) (λ_=>rfl)
 split
 .exact F4 rfl (by simp[HP,KB]) (λ_=>rfl)
 split
 .exact F4 rfl (HP (xZ0 (hG.num _ hm)) sm) (λ_=>rfl)
 split
 .exact F4 rfl (HP (we5 (hG.wx _ hm)) (hG.wx _ hm)) (λ_=>rfl)
 .refine F4 rfl (xI1 (wz hG hs)) (λhe=> ?_)
  have hb:=(NR he).2
  unfold xC
  rw[aiv hb]
  rfl
theorem xW5 (hL:eR L) (hG:gN L) {rec:Nat->RS->PR} (h: ∀w s,dv L s->s.bZ=o->PK L s (rec w s)): ∀(w:Nat) (s:RS),dv L s->s.bZ=o->PJ s (kB L rec w s)
 |0,s,hs,ho=>HQ hL hG (h 1) _ _ _ (by grind) ho
 |1,s,hs,ho=>HQ hL hG (h 2) _ _ _ (by grind) ho
 |2,s,hs,ho=>wn4 hL hG (h 2) (h 3) s hs ho
 |3,s,hs,ho=>wl0 hL hG (h 4) s ho _ (by grind)
 |4,s,hs,ho=>HQ hL hG (h 5) _ _ _ (by grind) ho
 |5,s,hs,ho=>HQ hL hG (h 6) _ _ _ (by grind) ho
 |_w+6,s,hs,ho=>xW3 hL hG (h 6) (h 0) s hs ho
theorem wc4 {k:RS->PR} (s:RS) (hk:(yT L s).err=0->PJ (yT L s) (k (yT L s))):PJ s (jY L k s):=by
 unfold jY
 split
 .rename_i he
  have hy:=hk he
  refine⟨hy.dS,λh=> ?_⟩
  have h2:=hy.size h
  rw[Ky]at h2
  exact h2
 .rename_i he
  exact⟨SA,λh=>absurd h he⟩
theorem HR (hL:eR L) (hG:gN L): ∀(f:Nat) (w:Nat) (s:RS),dv L s->s.bZ<=200->201<=(f:Int)+s.bZ->PJ s (pF L f w s)
 |0,w,s,hs,h2,hf=>by omega
 |f+1,w,s,hs,h2,hf=>by
  unfold pF
  refine wc4 s (λhe=> ?_)
  have h3:=(uT he).2
  exact xW5 hL hG (o:=s.bZ+1) (λw t ht ho=>⟨Kz hL f w t ht om (by push_cast at hf;omega),HR hL hG f w t ht om (by push_cast at hf;omega)⟩) w _ (uV hs h2) (qQ s)
theorem NU {L:List bR} (hL:eR L) (hG:gN L) {s:RS} (hs:dv L s) (ho:s.bZ=0):PJ s (iZ L s):=HR hL hG 201 0 s hs om om
structure UI (L:List bR) (s s':RS):Prop where
 cz:dv L s'
 bZ:s'.bZ=s.bZ
 up:s.at_<=s'.at_
 err:s'.err=0->s.err=0
variable {L:List bR}
theorem UI.refl {s:RS} (h:dv L s):UI L s s:=⟨h,rfl,A7 _,id⟩
theorem UI.trans {s s2 s3:RS} (h:UI L s s2) (k:UI L s2 s3):UI L s s3:=⟨k.cz,k.bZ.trans h.bZ,Aw h.up k.up,λe=>h.err (k.err e)⟩
theorem PI.ui {s:RS} {x:PR} (h:PI L s x):UI L s x.2:=⟨h.cz,h.bZ,h.up,λe=>(h.err e).1⟩
theorem yM (hL:eR L) (w:aiZ) {s:RS} (h:dv L s):UI L s (yI L w s):=⟨uR hL h,Eb w s,Ea w s,λe=>(wy e).1⟩
theorem nG (hL:eR L) {s:RS} (h:dv L s):UI L s (xC L s).2:=⟨Sp hL h,Sr s,Sq s,λe=>(NR e).1⟩
theorem xA (hL:eR L) {s:RS} (h:dv L s) (hi:dt L w s):UI L s (zR s):=⟨h.next hL hi,rfl,by simp[zR],id⟩
theorem SG (e p:Int) {s:RS} (h:dv L s) (he:e≠0):UI L s (iF e p s):=⟨NP h e p,HN e p s,by rw[HM];exact A7 _,λq=>absurd q (DX he)⟩
theorem NV (hL:eR L) {s:RS} (h:dv L s):UI L s (hZ L s).2:=by
 unfold hZ
 split
 .rename_i hb
  unfold tu at hb
  simp only[Ab,aiB]at hb
  exact⟨hL.next h (by rw[hb.2];decide),rfl,by simp[zR],id⟩
 .exact SG _ _ h dC
def ki (L:List bR) (n fZ:Int) (b:Bool) (s:RS):RS:=if s.err=0/\fZ<=n then iF (if b=true then 3 else 13) (cE L s).place s else s
theorem tD {fZ:Int} {b:Bool} {s:RS} (h:dv L s):UI L s (ki L n fZ b s):=by
 unfold ki
 split
 .exact SG _ _ h (by split<;>decide)
 .exact UI.refl h
theorem uW {fZ:Int} {b:Bool} {s:RS} (h:(ki L n fZ b s).err=0):s.err=0/\n<fZ/\ki L n fZ b s=s:=by
 unfold ki at h⊢
 split at h
 .exact absurd h (DX (by split<;>decide))
 .rename_i hc
  rw[aiu hc]
  refine⟨h, ?_,rfl⟩
  by_cases q:fZ<=n
  .exact absurd ⟨h,q⟩ hc
  .omega
theorem HS (L:List bR) (hL:eR L) (s:RS) (hs:dv L s) (n fZ:Int) (b:Bool):bN prog 65 [.ptr 0 0,.int .i64 n,.int .i64 fZ,.bool b] [rB L s] (λr I=>r= .bool ((ki L n fZ b s).err==0)/\I= [rB L (ki L n fZ b s)]):=by
 have ht:=nB L hL s hs
 have ae:=AP L s 3 (cE L s).place
 have ad:=AP L s 13 (cE L s).place
 have hM:ki L n fZ b s=if s.err=0/\fZ<=n then(if b=true then iF 3 (cE L s).place s else iF 13 (cE L s).place s)else s:=by unfold ki;cases b<;>rfl
 generalize ki L n fZ b s=M at hM⊢
 have e3:(iF 3 (cE L s).place s).err≠0:=DX dC
 have af:(iF 13 (cE L s).place s).err≠0:=DX dC
 generalize iF 3 (cE L s).place s=f3 at*
 generalize iF 13 (cE L s).place s=f13 at*
 refine iW 1 func65 ntmps65 results65 λc hc hb=>zM ?_
 simp[go_sem,rB]
 by_cases q1:s.err=0
 rotate_left
 .have aa:(s.err==0)=false:=sU q1
  rw[aiu (λh=>q1 h.1)]at hM
  simp[go_sem,aa]
  exact xN (L:=L) (s:=s) (zC rfl) ⟨by rw[hM,aa],by rw[hM];rfl⟩
 have aa:(s.err==0)=true:=sU q1
 by_cases q2:fZ<=n
 rotate_left
 .have ab:decide (fZ<=n)=false:=aiw q2
  rw[aiu (λh=>q2 h.2)]at hM
  simp[go_sem,aa,ab]
  exact xN (L:=L) (s:=s) (zC rfl) ⟨by rw[hM,aa],by rw[hM];rfl⟩
 have ab:decide (fZ<=n)=true:=aix q2
 rw[aiv ⟨q1,q2⟩]at hM
 simp[go_sem,aa,ab]
 refine(A6 b).elim (λq=> ?_) (λq=> ?_)
 .rw[aiv q]at hM
  have ah:(f3.err==0)=false:=sU e3
  subst q
  simp[go_sem]
  refine pR ht ?_
  simp[go_sem]
  refine pR ae ?_
  simp[go_sem,rB]
  exact xN (L:=L) (s:=f3) (zC rfl) ⟨by rw[hM],by rw[hM];rfl⟩
 .rw[aiu (by rw[q];decide)]at hM
  subst q
  simp[go_sem]
  refine pR ht ?_
  simp[go_sem]
  refine pR ad ?_
  simp[go_sem,rB]
  exact xN (L:=L) (s:=f13) (zC rfl) ⟨by rw[hM],by rw[hM];rfl⟩
def F5:aiZ:= [67,79,85,78,84]
def qR:aiZ:= [83,85,77]
def NW:List aiZ:= [[45],[40],[78,79,84],[84,82,85,69],[70,65,76,83,69],[78,85,76,76]]
def jQ (L:List bR) (item:Bool) (s:RS):Bool:=
 ((cE L s).kind==2||((cE L s).kind==3||((cE L s).kind==1&&lu (cE L s).s)))||((item&&(dt L F5 s||dt L qR s))|| !(dY L s NW== []))
theorem SH (L:List bR) (hL:eR L) (s:RS) (hs:dv L s) (item:Bool):bN prog 185 [.ptr 0 0,.bool item] [rB L s] (λr I=>r= .bool (jQ L item s)/\I= [rB L s]):=by
 have ht:=nB L hL s hs
 have h1:=jw L hL s hs F5
 have h2:=jw L hL s hs qR
 have h3:=AQ L hL s hs NW dC
 have ab:=hL.wx _ (F2 hs)
 have hw:=NO (cE L s).s ab
 generalize hM:jQ L item s=M
 unfold jQ at hM
 generalize dt L F5 s=c1 at h1 hM
 generalize dt L qR s=c2 at h2 hM
 generalize dY L s NW=a at h3 hM
 generalize lu (cE L s).s=b at hw hM
 have ad:(a != [])= !a.isEmpty:=by cases a<;>rfl
 have aa:(a== [])=a.isEmpty:=by cases a<;>rfl
 rw[aa]at hM
 have ret: ∀(r:Bool) (τ:St),r=M->cx (some (.bool r)) 1 (λr I=>r= .bool M/\I= [rB L s]) (rB L s::τ):=λr τ h=>by subst h;exact xN (zC rfl) ⟨rfl,rfl⟩
 refine iW 1 func185 ntmps185 results185 λc hc hb=>zM ?_
 simp[go_sem]
 refine pR ht ?_
 simp[go_sem]
 repeat' (first
  |(refine xD (λq=> ?_) (λq=> ?_)<;>simp[go_sem,q])
  |(refine zV (λq=> ?_) (λq=> ?_)<;>simp[go_sem,q])
  |(refine pC hw ?_;simp[go_sem])
  |(refine pR h1 ?_;simp[go_sem])
  |(refine pR h2 ?_;simp[go_sem])
  |(refine pR h3 ?_;simp[go_sem]))
 all_goals exact ret _ _ (by rw[<-hM];simp_all)
variable {L:List bR}
def Ef:aiZ:= [87,72,69,82,69]
def pa (L:List bR) (s:RS):RS:=if dt L Ef s=true then(iZ L (zR s)).2 else s
def jR (e:bJ):List V:= [.int .i64 e.kind,.str e.s,.int .i64 e.v.kind,.int .i64 e.v.n,.str e.v.s,.sl .ro (e.args.map bJ.row)]
def KE (L:List bR) (s:RS) (a b:List V) (o:Ob):Ob:=if dt L Ef s=true then .box (a++ [.bool true]++jR (iZ L (zR s)).1++b)else o
theorem uX (hL:eR L) {s:RS} (h:dv L s) (ho:s.bZ=0):UI L s (iZ L s).2:=(NS hL h ho).ui
theorem F6 (hL:eR L) {s:RS} (h:dv L s) (ho:s.bZ=0):UI L s (pa L s):=by
 unfold pa
 split
 .rename_i hi
  exact(xA hL h hi).trans (uX hL (h.next hL hi) ho)
 .exact UI.refl h
theorem wg0 (L:List bR) (hL:eR L) (s:RS) (hs:dv L s) (ho:s.bZ=0) (τ:St) (j:Nat) (c0 c1 c2 c3 c4 c5 c6 c7 c8 c9 af ah ab ad ae:V) (hj:τ[j]? =some (.box [c0,c1,c2,c3,c4,c5,c6,c7,c8,c9,af,ah,ab,ad,ae])):
  bN prog 122 [.ptr 0 0,.ptr (j+1) 0] (rB L s::τ) (λr I=>r= .cy []/\I=rB L (pa L s)::τ.set j (KE L s [c0,c1,c2,c3,c4] [ab,ad,ae] (.box [c0,c1,c2,c3,c4,c5,c6,c7,c8,c9,af,ah,ab,ad,ae]))):=by
 have ak:=(A4.1 hj).1
 have ai:=(A4.1 hj).2
 unfold pa KE
 refine bN.intro (τ.length+1) func122 ntmps122 results122 rfl rfl (C4 rfl) λc hc hb=>zM ?_
 by_cases q:dt L Ef s=true
 .rw[aiv q,aiv q]
  have aa:=xS L hL s hs _ q
  have aj:=tC L hL (zR s) (hs.next hL q) ho
  generalize iZ L (zR s)=y at aj⊢
  simp[go_sem]
  refine pR aa ?_
  simp[go_sem]
  refine jZ aj cB fK ?_
  simp[go_sem,bJ.bQ,ai,ak]
  refine Hp ?_ ⟨rfl, ?_⟩
  .simp
  .simp[go_sem,jR]
 .have q:dt L Ef s=false:=sU q
  have aa:=wS L hL s hs _ q
  rw[aiu (by rw[q];decide),aiu (by rw[q];decide)]
  simp[go_sem]
  refine pR aa ?_
  simp[go_sem]
  refine Hp sm ⟨rfl, ?_⟩
  rw[<-ai,List.set_getElem_self]
def pb (L:List bR) (s:RS):cP×RS:=
 if dt L F5 s=true then(⟨3,de⟩,yI L [41] (yI L [42] (yI L [40] (zR s))))
 else if dt L qR s=true then(⟨4,(iZ L (yI L [40] (zR s))).1⟩,yI L [41] (iZ L (yI L [40] (zR s))).2)
 else(⟨2,(iZ L s).1⟩,(iZ L s).2)
def tE (L:List bR):Nat->List cP->RS->List cP×RS
 |0,l,s=>(l,s)
 |n+1,l,s=>
  if(ki L l.length 6 (jQ L true s) s).err=0 then
   (if dt L [44] (pb L s).2=true then tE L n (l++ [(pb L s).1]) (zR (pb L s).2)else(l++ [(pb L s).1],(pb L s).2))
  else(l,ki L l.length 6 (jQ L true s) s)
def qS (L:List bR) (s:RS):List cP×RS:=if dt L [42] s=true then([⟨1,de⟩],zR s)else tE L 7 [] s
theorem NX (hL:eR L) {s:RS} (h:dv L s) (ho:s.bZ=0):UI L s (pb L s).2:=by
 unfold pb
 split
 .rename_i hi
  have h1:=xA hL h hi
  have h2:=h1.trans (yM hL [40] h1.cz)
  have h3:=h2.trans (yM hL [42] h2.cz)
  exact h3.trans (yM hL [41] h3.cz)
 split
 .rename_i hi
  have h1:=xA hL h hi
  have h2:=h1.trans (yM hL [40] h1.cz)
  have h3:=h2.trans (uX hL h2.cz (h2.bZ.trans ho))
  exact h3.trans (yM hL [41] h3.cz)
 .exact uX hL h ho
theorem xu7 {τ:St} {l:List cP} {s:RS} {g:Tag} {M:List cP×RS} (h:(l,s)=M):cx (some (.sl g (l.map cP.row))) 1 (λr I=>r= .sl .ro (M.1.map cP.row)/\I= [rB L M.2]) (rB L s::τ):=by
 subst h
 exact xN zK ⟨rfl,rfl⟩
theorem xZ2 (L:List bR) (hL:eR L) (s0:RS) (an:dv L s0) (ax:s0.bZ=0):bN prog 184 [.ptr 0 0] [rB L s0] (λr I=>r= .sl .ro ((qS L s0).1.map cP.row)/\I= [rB L (qS L s0).2]):=by
 generalize hM:qS L s0=M
 unfold qS at hM
 refine iV 1 func184 ntmps184 results184 λc hc hb=> ?_
 refine zA ?_
 simp[go_sem]
 by_cases q0:dt L [42] s0=true
 .rw[aiv q0]at hM
  refine pR (xS L hL s0 an _ q0) ?_
  simp[go_sem]
  refine xN (r:= .sl .ro ([(⟨1,de⟩:cP)].map cP.row)) ?_ ⟨by rw[<-hM],by rw[<-hM]⟩
  exact zK
 have q0:dt L [42] s0=false:=sU q0
 rw[aiu (by rw[q0];decide)]at hM
 refine pR (wS L hL s0 an _ q0) ?_
 simp[go_sem]
 refine lU 3 7 dC sg ?_
 refine zH (S:=List cP×RS) [0,3] (λu=> [.ptr 0 0,.sl (.app 1) (u.1.map cP.row)]) (λu=> [rB L u.2,.app u.1.length 7]) (λu=>7 - u.1.length) (λu=>u.1.length<=6/\UI L s0 u.2/\tE L (7 - u.1.length) u.1 u.2=M) hc hb ([],s0) ⟨A3 _,UI.refl an,hM⟩ ?_ ?_
 .exact aN 2 (by simp[rB,bS,cN,cL])
 rintro⟨l,s⟩ ⟨hl,hu,hinv⟩
 simp only at hl hu hinv
 have hs:=hu.cz
 have ho:=hu.bZ.trans ax
 have ae:=SH L hL s hs true
 have ab:=HS L hL s hs l.length 6 (jQ L true s)
 have ao:=uW (L:=L) (n:=l.length) (fZ:=6) (b:=jQ L true s) (s:=s)
 rw[show 7 - l.length=(6 - l.length)+1 by omega,tE]at hinv
 generalize jQ L true s=bg at ae ab ao hinv
 generalize ki L l.length 6 bg s=m at ab ao hinv
 by_cases q:m.err=0
 rotate_left
 .have q':(m.err==0)=false:=sU q
  rw[aiu q]at hinv
  rw[q']at ab
  refine zA ?_
  simp[go_sem]
  refine pR ae ?_
  simp[go_sem]
  refine pR ab ?_
  simp[go_sem]
  exact xu7 hinv
 have q':(m.err==0)=true:=sU q
 obtain⟨he,ay,rfl⟩:=ao q
 rw[aiv q]at hinv
 rw[q']at ab
 have al:=NX hL hs ho
 have ad:=hu.trans al
 generalize hit:pb L m=it at hinv al ad
 unfold pb at hit
 have aa: ∀b,dt L [44] it.2=b->bN prog 67 [.ptr 0 0,.str [44]] [rB L it.2] (λr I=>r= .bool b/\I= [rB L (if b=true then zR it.2 else it.2)]):=λb hb=>by
  cases b with
  |true=>exact xS L hL it.2 ad.cz _ hb
  |false=>exact wS L hL it.2 ad.cz _ hb
 by_cases q1:dt L F5 m=true
 .rw[aiv q1]at hit
  have ai:=hs.next hL q1
  have aj:=lv L hL _ ai [40]
  have af:=uR hL (w:= [40]) ai
  generalize yI L [40] (zR m)=u1 at aj af hit
  have aq:=lv L hL _ af [42]
  have ar:=uR hL (w:= [42]) af
  generalize yI L [42] u1=u2 at aq ar hit
  have ak:=lv L hL _ ar [41]
  generalize yI L [41] u2=u3 at ak hit
  subst hit
  simp only at hinv ad aa
  refine zA ?_
  simp[go_sem]
  refine pR ae ?_
  simp[go_sem]
  refine pR ab ?_
  simp[go_sem]
  refine pR (xS L hL m hs _ q1) ?_
  simp[go_sem]
  refine pR aj ?_
  simp[go_sem]
  refine pR aq ?_
  simp[go_sem]
  refine pR ak ?_
  simp[go_sem]
  refine zJ ⟨om,zY rfl⟩ ?_
  simp[go_sem]
  refine(A6 (dt L [44] u3)).elim (λq2=> ?_) (λq2=> ?_)
  .rw[aiv q2]at hinv
   refine pR (aa true q2) ?_
   simp[go_sem]
   refine zI (l++ [⟨3,de⟩],zR u3) ⟨by simp;omega,⟨by simp;omega,ad.trans (xA hL ad.cz q2),by simp only[An,Bm,show 7 - (l.length+1)=6 - l.length by omega];exact hinv⟩, ?_⟩
   exact aM 2 (by simp[rB,bS,cN,cL]) (zD (by simp[go_sem]<;>exact⟨rfl,rfl,rfl,rfl,rfl,rfl⟩) rfl)
  .rw[aiu (by rw[q2];decide)]at hinv
   refine pR (aa false q2) ?_
   simp[go_sem]
   exact xN (L:=L) zK ⟨by rw[<-hinv];simp[cP.row]<;>exact⟨rfl,rfl,rfl,rfl,rfl,rfl⟩,by rw[<-hinv]⟩
 have q1:dt L F5 m=false:=sU q1
 rw[aiu (by rw[q1];decide)]at hit
 by_cases ah:dt L qR m=true
 .rw[aiv ah]at hit
  have ai:=hs.next hL ah
  have aj:=lv L hL _ ai [40]
  have af:=uR hL (w:= [40]) ai
  have au:=Eb (L:=L) [40] (zR m)
  generalize yI L [40] (zR m)=u1 at aj af au hit
  have av:u1.bZ=0:=by rw[au];exact ho
  have hx:=tC L hL u1 af av
  have aw:=(NS hL af av).cz
  generalize iZ L u1=x at hx aw hit
  have ak:=lv L hL _ aw [41]
  generalize yI L [41] x.2=u3 at ak hit
  subst hit
  simp only at hinv ad aa
  refine zA ?_
  simp[go_sem]
  refine pR ae ?_
  simp[go_sem]
  refine pR ab ?_
  simp[go_sem]
  refine pR (wS L hL m hs _ q1) ?_
  simp[go_sem]
  refine pR (xS L hL m hs _ ah) ?_
  simp[go_sem]
  refine pR aj ?_
  simp[go_sem]
  refine jZ hx cB fK ?_
  simp[go_sem,bJ.bQ]
  refine pR ak ?_
  simp[go_sem]
  refine zJ ⟨om,zY rfl⟩ ?_
  simp[go_sem]
  refine(A6 (dt L [44] u3)).elim (λq2=> ?_) (λq2=> ?_)
  .rw[aiv q2]at hinv
   refine pR (aa true q2) ?_
   simp[go_sem]
   refine zI (l++ [⟨4,x.1⟩],zR u3) ⟨by simp;omega,⟨by simp;omega,ad.trans (xA hL ad.cz q2),by simp only[An,Bm,show 7 - (l.length+1)=6 - l.length by omega];exact hinv⟩, ?_⟩
   exact aM 2 (by simp[rB,bS,cN,cL]) (zD (by simp[go_sem]<;>exact⟨rfl,rfl,rfl,rfl,rfl,rfl⟩) rfl)
  .rw[aiu (by rw[q2];decide)]at hinv
   refine pR (aa false q2) ?_
   simp[go_sem]
   exact xN (L:=L) zK ⟨by rw[<-hinv];simp[cP.row]<;>exact⟨rfl,rfl,rfl,rfl,rfl,rfl⟩,by rw[<-hinv]⟩
 have ah:dt L qR m=false:=sU ah
 rw[aiu (by rw[ah];decide)]at hit
 .have hx:=tC L hL m hs ho
  generalize iZ L m=x at hx hit
  subst hit
  simp only at hinv ad aa
  refine zA ?_
  simp[go_sem]
  refine pR ae ?_
  simp[go_sem]
  refine pR ab ?_
  simp[go_sem]
  refine pR (wS L hL m hs _ q1) ?_
  simp[go_sem]
  refine pR (wS L hL m hs _ ah) ?_
  simp[go_sem]
  refine jZ hx cB fK ?_
  simp[go_sem,bJ.bQ]
  refine zJ ⟨om,zY rfl⟩ ?_
  simp[go_sem]
  refine(A6 (dt L [44] x.2)).elim (λq2=> ?_) (λq2=> ?_)
  .rw[aiv q2]at hinv
   refine pR (aa true q2) ?_
   simp[go_sem]
   refine zI (l++ [⟨2,x.1⟩],zR x.2) ⟨by simp;omega,⟨by simp;omega,ad.trans (xA hL ad.cz q2),by simp only[An,Bm,show 7 - (l.length+1)=6 - l.length by omega];exact hinv⟩, ?_⟩
   exact aM 2 (by simp[rB,bS,cN,cL]) (zD (by simp[go_sem]<;>exact⟨rfl,rfl,rfl,rfl,rfl,rfl⟩) rfl)
  .rw[aiu (by rw[q2];decide)]at hinv
   refine pR (aa false q2) ?_
   simp[go_sem]
   exact xN (L:=L) zK ⟨by rw[<-hinv];simp[cP.row]<;>exact⟨rfl,rfl,rfl,rfl,rfl,rfl⟩,by rw[<-hinv]⟩
end Go.Proofs.YtplackkccmeioaaGreat
