/-
  The document's reader of statements: what a SELECT tells, and WHERE, over trees (the library Vx); used by the theorem at the end of the claim.
  Conditions: as each theorem states them.
-/
import Derived.Test.YtplackkccmeioaaGreatKAAE
set_option maxHeartbeats 8000000
namespace Go.Proofs.YtplackkccmeioaaGreat
open Go Go.Vx Go.Proofs.Tryz
set_option maxRecDepth 100000
variable {τ:St}{P:Program}{c:Ctx}{f:FuncId}{bY:List V}{cj:List V}{KV:V->St->Prop}
def Kg (s:aiA):aiA:=if s= [60]then [62]else if s= [60,61]then [62,61]else if s= [62]then [60]else if s= [62,61]then [60,61]else s
theorem xQ2 (s:aiA):Pure prog 238 [.str s] (.str (Kg s)):=by
 generalize hM:Kg s=M
 have ret: ∀(r:aiA) (I:St),r=M->cw (some (.str r)) 0 (λr s=>r= .str M/\s= []) I:=λr I h=>by subst h;exact wR
 unfold Kg at hM
 refine iW 0 func238 ntmps238 results238 λc hc hb=>zM ?_
 simp[go_sem]
 repeat' (first|(refine xD (λq=> ?_) (λq=> ?_)<;>simp[go_sem,q])|(refine zV (λq=> ?_) (λq=> ?_)<;>simp[go_sem,q]))
 all_goals exact ret _ _ (by simp_all)
def kM:List aiA:= [[79,82],[65,78,68],[61],[60,62],[60],[60,61],[62],[62,61],[43],[45],[42],[47],[37]]
def mD:List aiA:= [[78,79,84],[73,83,78,85,76,76],[78,79,84,78,85,76,76],[78,69,71]]
def tC (s:aiA):Int:=if kM.contains s=true then 2 else if mD.contains s=true then 1 else 0
def uT (b:Bool):bK:=⟨1,if b then 1 else 0,[]⟩
theorem FU (b:Bool):Pure prog 217 [.bool b] (.agg (uT b).row):=by
 refine iW 0 func217 ntmps217 results217 λc hc hb=>zM ?_
 simp[go_sem]
 cases b<;>simp[go_sem]<;>exact wR
theorem Kh (v:bK):Pure prog 305 [.agg v.row] (.bool (v.kind==0)):=by
 refine iW 0 func305 ntmps305 results305 λc hc hb=>zM ?_
 simp[go_sem]
 exact wR
def wz (many NH:Bool) (k:Int):Int×Int:=if many=false then(0,9)else if NH=false then(0,15)else(k,0)
def wI (r:Int×Int):V:= .cz [.int .i64 r.1,.int .i64 r.2]
theorem wZ {r:Int×Int} {a e:Int} {I:St} (h:r=(a,e)):cw (some (.cz [.int .i64 a,.int .i64 e])) 0 (λv s=>v=wI r/\s= []) I:=by
 subst h
 exact wR
theorem Ki (many aa:Bool) (k:Int):Pure prog 295 [.bool many,.bool aa,.int .i64 k] (wI (wz many aa k)):=by
 refine iW 0 func295 ntmps295 results295 λc hc hb=>zM ?_
 cases many<;>cases aa<;>simp[go_sem]<;>exact wZ rfl
def iz (l:aiD) (k:Int):Bool:=l.all λx=>x==k||x==0
theorem Kj (l:aiD) (k:Int) (hl:l.length<=maxLen):Pure prog 296 [.sl .ro (l.map λn=> [V.int .i64 n]),.int .i64 k] (.bool (iz l k)):=by
 generalize hM:iz l k=M
 have ret: ∀(r:Bool) (I:St),r=M->cw (some (.bool r)) 0 (λr s=>r= .bool M/\s= []) I:=λr I h=>by subst h;exact wR
 unfold iz at hM
 refine iV 0 func296 ntmps296 results296 λc hc hb=> ?_
 refine zA ?_
 simp[go_sem]
 refine zI (S:=Nat) [1,7,8,9] (λi=> [.int .i64 k,.sl .ro (l.map λn=> [V.int .i64 n]),.int .i64 l.length,.int .i64 i]) (λ_=> []) (λi=>l.length - i) (λi=>i<=l.length/\((l.drop i).all λx=>x==k||x==0)=M) hc hb 0 ⟨A3 _,hM⟩ ?_ ?_
 .exact aO
 rintro i ⟨hi,hinv⟩
 by_cases q:i<l.length
 rotate_left
 .have e:l.drop i= []:=A9 om
  rw[e]at hinv
  refine zA ?_
  simp[go_sem,q]
  exact ret _ _ hinv
 have ei:=zU q (by unfold maxLen at hl;omega)
 obtain⟨r,hr⟩:=eX (l[i])
 rw[A5 q,Bt,hr]at hinv
 refine zA ?_
 simp[go_sem,q,hr]
 by_cases w1:r=k
 .simp[go_sem,w1,ei]
  rw[w1,beq_self_eq_true,Dh,Bc]at hinv
  exact zJ (i+1) ⟨om,⟨q,hinv⟩,aO⟩
 have aa:(r !=k)=true:=sU w1
 by_cases w2:r=0
 .have w3:(r !=0)=false:=by simp[w2]
  simp[go_sem,aa,w3,ei]
  rw[w2,beq_self_eq_true,aiz,Bc]at hinv
  exact zJ (i+1) ⟨om,⟨q,hinv⟩,aO⟩
 have ab:(r !=0)=true:=sU w2
 simp[go_sem,aa,ab]
 exact ret _ _ (by rw[<-hinv,show(r==k)=false by simpa using w1,show(r==0)=false by simpa using w2];rfl)
def oW (s:aiA) (l:aiD):Int×Int:=
 if s= [73,83,78,85,76,76]\/s= [78,79,84,78,85,76,76]then wz ((l.length:Int)==1) true 1
 else if s= [78,79,84]then wz ((l.length:Int)==1) (iz l 1) 1
 else if s= [78,69,71]then wz ((l.length:Int)==1) (iz l 2) 2
 else if s= [79,82]\/s= [65,78,68]then wz ((l.length:Int)==2) (iz l 1) 1
 else if s= [43]\/s= [45]\/s= [42]\/s= [47]\/s= [37]then wz ((l.length:Int)==2) (iz l 2) 2
 else if s= [61]\/s= [60,62]\/s= [60]\/s= [60,61]\/s= [62]\/s= [62,61]then
  wz ((l.length:Int)==2) ((l.length:Int)==2&&(l.getD 0 0==l.getD 1 0||(l.getD 0 0==0||l.getD 1 0==0))) 1
 else(0,9)
theorem yS9 (s:aiA) (x y:Int):Pure prog 253 [.str s,.sl .ro [[.int .i64 x],[.int .i64 y]]] (wI (oW s [x,y])):=by
 generalize hM:oW s [x,y]=M
 have ret: ∀(r:Int×Int) (I:St),r=M->cw (some (.cz [.int .i64 r.1,.int .i64 r.2])) 0 (λr s=>r=wI M/\s= []) I:=λr I h=>by subst h;exact zW (zC rfl) (by trivial)
 unfold oW at hM
 have h1:=Kj [x,y] 1 (by unfold maxLen;simp)
 have h2:=Kj [x,y] 2 (by unfold maxLen;simp)
 simp only[Ah,Bp]at h1 h2
 generalize iz [x,y] 1=a1 at h1 hM
 generalize iz [x,y] 2=a2 at h2 hM
 simp only[List.getD_cons_zero,List.getD_cons_succ]at hM
 refine iW 0 func253 ntmps253 results253 λc hc hb=>zM ?_
 simp[go_sem]
 repeat' (first
  |(refine zV (λq=> ?_) (λq=> ?_)<;>simp[go_sem,q])
  |(refine xD (λq=> ?_) (λq=> ?_)<;>simp[go_sem,q])
  |(refine yI [(23,0)] 0 rfl kR kR ?_;simp[go_sem])
  |(refine pC h1 ?_;simp[go_sem])
  |(refine pC h2 ?_;simp[go_sem])
  |(refine pC (Ki _ _ _) ?_;simp[go_sem,wI])
  |(refine pD (Ki _ _ _) ?_;simp[go_sem,wI]))
 all_goals first|exact ret _ _ (by simp_all)|exact ret (0,9) _ (by simp_all)
theorem yT0 (s:aiA) (l:aiD) (hl:l.length<=maxLen) (hn:((l.length:Int)==2)=false):Pure prog 253 [.str s,.sl .ro (l.map λn=> [V.int .i64 n])] (wI (oW s l)):=by
 generalize hM:oW s l=M
 have ret: ∀(r:Int×Int) (I:St),r=M->cw (some (.cz [.int .i64 r.1,.int .i64 r.2])) 0 (λr s=>r=wI M/\s= []) I:=λr I h=>by subst h;exact zW (zC rfl) (by trivial)
 unfold oW at hM
 have h1:=Kj l 1 hl
 have h2:=Kj l 2 hl
 generalize iz l 1=a1 at h1 hM
 generalize iz l 2=a2 at h2 hM
 simp only[hn,Dq]at hM
 refine iW 0 func253 ntmps253 results253 λc hc hb=>zM ?_
 simp[go_sem]
 repeat' (first
  |(refine zV (λq=> ?_) (λq=> ?_)<;>simp[go_sem,q,hn])
  |(refine yI [(23,0)] 0 rfl kR kR ?_;simp[go_sem])
  |(refine pC h1 ?_;simp[go_sem])
  |(refine pC h2 ?_;simp[go_sem])
  |(refine pC (Ki _ _ _) ?_;simp[go_sem,wI])
  |(refine pD (Ki _ _ _) ?_;simp[go_sem,wI]))
 all_goals first|exact ret _ _ (by simp_all)|exact ret (0,9) _ (by simp_all)
theorem xc8 (s:aiA) (l:aiD) (hl:l.length<=maxLen):Pure prog 253 [.str s,.sl .ro (l.map λn=> [V.int .i64 n])] (wI (oW s l)):=by
 by_cases h:l.length=2
 .match l,h with
  | [x,y],_=>grind[yS9]
 grind[yT0]
theorem wQ {ρ:Nat->Nat} {g:Tag} {rows eC:List (List V)} (h:eC=rows):cP ρ (.sl .ro eC) (.sl g rows):=by subst h;exact zK
theorem Kl {n:Int} (h:0<=n) (h2:n<=255):IntKind.u8.wrap n=n:=by
 unfold IntKind.wrap
 simp[IntKind.bits,IntKind.signed]
 omega
def yP (c:UInt8):UInt8:=if 97<=c.toNat/\c.toNat<=122 then UInt8.ofNat (c.toNat - 32)else c
def jM (c:UInt8):Bool:=decide (48<=c.toNat/\c.toNat<=57)
def mE (c:UInt8):Bool:=decide (65<=(yP c).toNat/\(yP c).toNat<=90)||decide (c.toNat=95)
theorem NI (c:UInt8):Pure prog 181 [.int .u8 c.toNat] (.int .u8 (yP c).toNat):=by
 have hc:=c.toNat_lt
 have ret: ∀(r:Int) (I:St),r=((yP c).toNat:Int)->cw (some (.int .u8 r)) 0 (λr s=>r= .int .u8 (yP c).toNat/\s= []) I:=λr I h=>by subst h;exact wR
 unfold yP at ret⊢
 obtain⟨n,hn⟩:=eX c.toNat
 have aa:n<=255->(UInt8.ofNat (n - 32)).toNat=n - 32:=λh=>by
  rw[UInt8.toNat_ofNat'];exact Cx om
 rw[hn]at hc ret⊢
 refine iW 0 func181 ntmps181 results181 λc hc hb=>zM ?_
 simp[go_sem]
 refine xD (λq=> ?_) (λq=> ?_)
 .have q1:97<=n:=by simp at q;omega
  simp[go_sem,q]
  refine zV (λq2=> ?_) (λq2=> ?_)
  .have q2:n<=122:=by simp at q2;omega
   have e1:IntKind.u8.wrap ((n:Int) - 97)=(n:Int) - 97:=Kl om om
   have e2:IntKind.u8.wrap ((n:Int) - 97+65)=(n:Int) - 97+65:=Kl om om
   simp[go_sem,e1,e2]
   exact ret _ _ (by rw[ai2 ⟨q1,q2⟩,aa om];omega)
  .have q2: ¬n<=122:=by simp at q2;omega
   simp[go_sem]
   exact ret _ _ (by rw[ai1 (λh=>q2 h.2),hn])
 .have q1: ¬97<=n:=by simp at q;omega
  simp[go_sem,q]
  exact ret _ _ (by rw[ai1 (λh=>q1 h.1),hn])
theorem HG (c:UInt8):Pure prog 180 [.int .u8 c.toNat] (.bool (jM c)):=by
 unfold jM
 generalize c.toNat=n
 generalize hM:decide (48<=n/\n<=57)=M
 have ret: ∀(r:Bool) (I:St),r=M->cw (some (.bool r)) 0 (λr s=>r= .bool M/\s= []) I:=λr I h=>by subst h;exact wR
 refine iW 0 func180 ntmps180 results180 λc hc hb=>zM ?_
 simp[go_sem]
 refine xD (λq=> ?_) (λq=> ?_)
 .simp[go_sem,q]
  refine ret _ _ ?_
  rw[<-hM]
  simp at q
  exact decide_eq_decide.2 om
 .simp[go_sem,q]
  refine ret _ _ ?_
  rw[<-hM]
  simp at q
  exact(ai3 om).symm
theorem Km (c:UInt8):Pure prog 179 [.int .u8 c.toNat] (.bool (mE c)):=by
 have hg:=NI c
 unfold mE
 revert hg
 generalize (yP c).toNat=g
 generalize c.toNat=n
 generalize hM:(decide (65<=g/\g<=90)||decide (n=95))=M
 have ret: ∀(r:Bool) (I:St),r=M->cw (some (.bool r)) 0 (λr s=>r= .bool M/\s= []) I:=λr I h=>by subst h;exact wR
 have aa: ∀(a:Nat) (b:Bool),((a:Int)==95)=b->decide (a=95)=b:=λa b h=>by
  rw[<-h]
  by_cases q:a=95
  .subst q;rfl
  .rw[ai3 q]
   exact(beq_eq_false_iff_ne.2 om).symm
 intro hg
 refine iW 0 func179 ntmps179 results179 λc hc hb=>zM ?_
 simp[go_sem]
 refine pC hg ?_
 simp[go_sem]
 refine xD (λq=> ?_) (λq=> ?_)
 .simp[go_sem,q]
  refine pC hg ?_
  simp[go_sem]
  simp at q
  refine xD (λq2=> ?_) (λq2=> ?_)
  .have q3: ¬g<=90:=by simp at q2;omega
   simp[go_sem,q2]
   exact ret _ _ (by rw[<-hM,ai3 (λh=>q3 h.2),C5];exact(aa n _ rfl).symm)
  .have q3:g<=90:=by simp at q2;omega
   simp[go_sem,q2]
   exact ret _ _ (by rw[<-hM,ai4 ⟨om,q3⟩];rfl)
 .have q3: ¬65<=g:=by simp at q;omega
  simp[go_sem,q]
  exact ret _ _ (by rw[<-hM,ai3 (λh=>q3 h.1),C5];exact(aa n _ rfl).symm)
def js:List aiA:= [[65,76,76],[65,78,68],[65,83],[65,83,67],[66,69,84,87,69,69,78],[66,79,85,78,68],[66,89],[67,79,85,78,84],[68,69,76,69,84,69],[68,69,83,67],[69,88,65,67,84],[70,65,76,83,69],[70,82,79,77],[73,78,83,69,82,84],[73,78,84,79],[73,83],[76,73,77,73,84],[78,79,84],[78,85,76,76],[78,79,87],[79,70],[79,82],[79,82,68,69,82],[83,69,76,69,67,84],[83,69,84],[83,85,77],[83,89,83,84,69,77],[84,73,77,69],[84,82,85,69],[85,80,68,65,84,69],[86,65,76,85,69,83],[87,72,69,82,69]]
theorem Kn:js.length=32:=rfl
theorem yY3:Pure prog 247 [] (.sl .ro (js.map λs=> [.str s])):=by
 refine iW 0 func247 ntmps247 results247 λc hc hb=>zM ?_
 simp[go_sem]
 exact zW (wQ (by simp[js])) ⟨rfl,rfl⟩
def uV (c:UInt8):Bool:=(mE c||jM c)&&(yP c==c)
def lB (s:aiA):Bool:=decide (1<=s.length/\s.length<=16)&&(!jM (s.headD 0)&&(s.all uV&& !js.contains s))
theorem NJ (s:aiA) (hl:s.length<=maxLen):Pure prog 187 [.str s] (.bool (lB s)):=by
 generalize hM:lB s=M
 unfold lB at hM
 have ret: ∀(r:Bool) (I:St),r=M->cw (some (.bool r)) 0 (λr s=>r= .bool M/\s= []) I:=λr I h=>by subst h;exact wR
 refine iV 0 func187 ntmps187 results187 λc hc hb=> ?_
 refine zA ?_
 simp[go_sem]
 by_cases h0:s.length=0
 .have ae:((s.length:Int)==0)=true:=sU h0
  simp[go_sem,ae]
  exact ret _ _ (by rw[<-hM,ai3 om];rfl)
 have ae:((s.length:Int)==0)=false:=sU h0
 simp[go_sem,ae]
 by_cases ah:s.length<=16
 rotate_left
 .have ad:decide (16<(s.length:Int))=true:=by simp;omega
  simp[go_sem,ad]
  exact ret _ _ (by rw[<-hM,ai3 om];rfl)
 have ad:decide (16<(s.length:Int))=false:=by simp;omega
 rw[ai4 ⟨om,ah⟩,Bc]at hM
 have hp:0<s.length:=om
 obtain⟨c0,af⟩: ∃c,s[0]=c:=⟨_,rfl⟩
 have ai:s.headD 0=c0:=by
  rw[<-af]
  cases s with
  |nil=>simp at hp
  |cons x l=>rfl
 rw[ai]at hM
 simp[go_sem,ad,hp,af]
 try (refine zH om ?_;simp[go_sem])
 refine pC (HG c0) ?_
 simp[go_sem]
 refine zV (λhd=> ?_) (λhd=> ?_)
 .simp[go_sem]
  exact ret _ _ (by rw[<-hM,hd];rfl)
 rw[hd,Bool.not_false,Bc]at hM
 simp[go_sem]
 refine zI (S:=Nat) [0,3] (λi=> [.str s,.int .i64 i]) (λ_=> []) (λi=>s.length - i) (λi=>i<=s.length/\(s.drop i).all uV=s.all uV) hc hb 0 ⟨A3 _,rfl⟩ ?_ ?_
 .exact aO
 rintro i ⟨hi,hinv⟩
 refine zA ?_
 simp[go_sem]
 refine zV (λq=> ?_) (λq=> ?_)
 .have q:i<s.length:=sU q
  have ei:=zU q om
  obtain⟨c1,aa⟩: ∃c,s[i]=c:=⟨_,rfl⟩
  rw[A5 q,Bt,aa]at hinv
  have db:uV c1=((mE c1||jM c1)&&(yP c1==c1)):=rfl
  have g1:=Km c1
  have g2:=HG c1
  have g3:=NI c1
  have ab:(((yP c1).toNat:Int) !=(c1.toNat:Int))= !(yP c1==c1):=by
   by_cases h:yP c1=c1
   .rw[h];simp
   .have: ¬(yP c1).toNat=c1.toNat:=λw=>h (E5.1 w)
    rw[beq_eq_false_iff_ne.2 h]
    simp
    omega
  revert db g1 g2 g3 ab
  generalize mE c1=bl
  generalize jM c1=bd
  generalize aj:(yP c1==c1)=bg
  generalize yP c1=cg
  intro db g1 g2 g3 ab
  have bad: ∀(b:Bool) (I:St),uV c1=false->cw (some (.bool false)) 0 (λr s=>r= .bool M/\s= []) I:=λb I h=>ret _ _ (by rw[<-hM,<-hinv,h];rfl)
  have dV:uV c1=true->(s.drop (i+1)).all uV=s.all uV:=λh=>by rw[<-hinv,h,Bc]
  simp[go_sem]
  refine yI [(3,0),(9,0),(16,0)] 0 rfl kR kR ?_
  simp[go_sem,q,aa]
  refine pD g1 ?_
  simp[go_sem]
  refine(A6 bl).elim (λw=> ?_) (λw=> ?_)
  .simp[go_sem,w,q,aa]
   refine pD g3 ?_
   simp[go_sem,q,aa]
   refine zV (λw3=> ?_) (λw3=> ?_)
   .simp[go_sem]
    exact bad true _ (by rw[db,w];rw[ab]at w3;simpa using w3)
   .simp[go_sem,ei]
    exact zJ (i+1) ⟨om,⟨q,dV (by rw[db,w];rw[ab]at w3;simpa using w3)⟩,aO⟩
  .simp[go_sem,w,q,aa]
   refine pD g2 ?_
   simp[go_sem]
   refine(A6 bd).elim (λw2=> ?_) (λw2=> ?_)
   .simp[go_sem,w2,q,aa]
    refine pD g3 ?_
    simp[go_sem,q,aa]
    refine zV (λw3=> ?_) (λw3=> ?_)
    .simp[go_sem]
     exact bad true _ (by rw[db,w,w2];rw[ab]at w3;simpa using w3)
    .simp[go_sem,ei]
     exact zJ (i+1) ⟨om,⟨q,dV (by rw[db,w,w2];rw[ab]at w3;simpa using w3)⟩,aO⟩
   .simp[go_sem,w2]
    exact bad true _ (by rw[db,w,w2];rfl)
 .have q:i=s.length:=by
   have: ¬i<s.length:=sU q
   omega
  subst q
  rw[Ci,D9]at hinv
  rw[<-hinv,Bc]at hM
  simp[go_sem]
  refine pC yY3 ?_
  simp[go_sem]
  refine zI (S:=Nat) [0,4,5] (λi=> [.str s,.sl .ro (js.map λs=> [.str s]),.int .i64 i]) (λ_=> []) (λi=>32 - i) (λi=>i<=32/\(js.drop i).contains s=js.contains s) hc hb 0 ⟨A3 _,rfl⟩ ?_ ?_
  .exact aO
  rintro i ⟨hi,hinv⟩
  refine zA ?_
  simp[go_sem,Kn]
  refine zV (λq=> ?_) (λq=> ?_)
  .have q:i<32:=by simp at q;omega
   have q2:i<js.length:=by rw[Kn];exact q
   have ei:=zU q om
   obtain⟨x,hx⟩:=eX (js[i])
   rw[A5 q2,Dg,hx]at hinv
   simp[go_sem,Kn,q,hx]
   try (refine zH om ?_;simp[go_sem])
   refine zV (λw=> ?_) (λw=> ?_)
   .have w:x=s:=sU w
    simp[go_sem]
    exact ret _ _ (by rw[<-hM,<-hinv,w];simp)
   .have w: ¬x=s:=sU w
    have w2:(s==x)=false:=beq_eq_false_iff_ne.2 λh=>w h.symm
    rw[w2,C5]at hinv
    simp[go_sem,ei]
    exact zJ (i+1) ⟨om,⟨q,hinv⟩,aO⟩
  .have q:i=32:=by simp at q;omega
   subst q
   rw[Bo (by rw[Kn];exact A7 _)]at hinv
   simp[go_sem]
   exact ret _ _ (by rw[<-hM,<-hinv];rfl)
structure bQ where
 kind:Int
 place:Int
 s:aiA
 n:Int
 deriving DecidableEq
@[go_sem] def bQ.row (x:bQ):List V:= [.int .i64 x.kind,.int .i64 x.place,.str x.s,.int .i64 x.n]
structure RS where
 at_:Nat
 bZ:Int
 err:Int
 place:Int
 deriving DecidableEq
def rB (L:List bQ) (s:RS):Ob:= .box [.sl .ro (L.map bQ.row),.int .i64 (s.at_:Int),.int .i64 s.bZ,.int .i64 s.err,.int .i64 s.place]
theorem Ko (L:List bQ) (s:RS) (n:Nat):bT n (rB L s)=true:=by rfl
def l8:bQ:=⟨0,0,[],0⟩
def cD (L:List bQ) (s:RS):bQ:=L.getD s.at_ l8
def iF (e place:Int) (s:RS):RS:=if s.err=0 then{s with err:=e,place:=place}else s
def zR (s:RS):RS:={s with at_:=s.at_+1}
def dF (s:RS):RS:={s with bZ:=s.bZ - 1}
def dq (L:List bQ) (w:aiA) (s:RS):Bool:=s.err==0&&(((cD L s).kind==1||(cD L s).kind==4)&&(cD L s).s==w)
def mF (L:List bQ) (w:aiA) (s:RS):RS:=if dq L w s=true then zR s else s
def yH (L:List bQ) (w:aiA) (s:RS):RS:=if dq L w s=true then zR s else iF 13 (cD L s).place s
def FV (L:List bQ) (s:RS):Bool:=s.err==0&&((cD L s).kind==1&&lB (cD L s).s)
def xC (L:List bQ) (s:RS):aiA×RS:=if FV L s=true then((cD L s).s,zR s)else([],iF 13 (cD L s).place s)
def tD (L:List bQ) (s:RS):Bool:=s.err==0&&(cD L s).kind==2
def hZ (L:List bQ) (s:RS):Int×RS:=if tD L s=true then((cD L s).n,zR s)else(0,iF 13 (cD L s).place s)
def ec (L:List bQ) (s:RS):List aiA->aiA
 | []=> []
 |w::ws=>if dq L w s=true then w else ec L s ws
def yT (L:List bQ) (s:RS):RS:=if s.err=0/\s.bZ+1>200 then{s with bZ:=s.bZ+1,err:=3,place:=(cD L s).place}else{s with bZ:=s.bZ+1}
structure du (L:List bQ) (s:RS):Prop where
 at_:s.at_<L.length
 bZ:0<=s.bZ/\s.bZ<=100000
structure eR (L:List bQ):Prop where
 len:L.length<=1000000
 last: ∀i,L.length=i+1->(L.getD i l8).kind=0
 w7: ∀t∈L,t.s.length<=maxLen
theorem eR.next {L:List bQ} (h:eR L) {s:RS} (hs:du L s) (hk:(cD L s).kind≠0):du L (zR s):=by
 refine⟨?_,hs.bZ⟩
 have h1:=hs.at_
 rcases Bv (s.at_+1) L.length with h2|h2
 .exact h2
 .exact absurd (h.last s.at_ om) hk
theorem xI2 {L:List bQ} {w:aiA} {s:RS} (h:dq L w s):(cD L s).kind≠0/\s.err=0:=by
 simp_all[dq];omega
theorem nz (L:List bQ) (hL:eR L) (s:RS) (hs:du L s):bN prog 69 [.ptr 0 0] [rB L s] (λr I=>r= .agg (cD L s).row/\I= [rB L s]):=by
 have h1:=hs.at_
 have hl:=hL.len
 obtain⟨t,ht⟩:=eX (L[s.at_])
 have aa:cD L s=t:=by unfold cD;grind
 rw[aa]
 refine iW 1 func69 ntmps69 results69 λc hc hb=>zM ?_
 simp[go_sem,rB]
 refine nv [(10,4)] 2 sm (by rfl) kR ?_
 simp[go_sem,h1,ht]
 exact yZ 1 rfl rfl rfl om (zC rfl) sm
theorem HH {args:List V} {L:List bQ} {s s':RS} {v:V} (hc:bN P f cj [rB L s] (λr I=>r=v/\I= [rB L s'])) (hb:xE P f)
  (aa:bP (cP (cK [0] (τ.length+1))) cj (args++bY)) (hn:gM v) (hk:KV v (rB L s'::τ)):jk P c (.fn f bY) args (rB L s::τ) KV fx:=by
 refine mz 0 hc hb rfl (by rfl) aa (by grind[Ko]) ?_
 rintro r o2 ⟨rfl,h2⟩
 obtain rfl:o2=rB L s':=by grind
 grind[zi]
theorem tE {n:Nat} {args:List V} {L:List bQ} {s s':RS} {v:V} (hc:bN P f cj [rB L s] (λr I=>r=v/\I= [rB L s'])) (hb:xE P f)
  (aa:bP (cP (cK [0] (τ.length+1))) cj (args++bY)) (hn:gM v) (hk:KV v (rB L s'::τ)):pT P c ⟨1,n,[],none⟩ 3 (.fn f bY) args (rB L s::τ) KV fx:=
 Zn hc hb rfl (by rfl) (by rfl) aa hn hk
theorem wM {N:Nat} {l l':List V} (h:bP (cP (cK [0] N)) l l'):bP (cP (cK [0] N)) (.ptr 0 0::l) (.ptr 0 0::l'):=⟨.inl rfl,h⟩
theorem fK {N:Nat}:bP (cP (cK [0] N)) [.ptr 0 0] [.ptr 0 0]:=wM trivial
theorem pR {args:List V} {L:List bQ} {s s':RS} {v:V} (hc:bN P f cj [rB L s] (λr I=>r=v/\I= [rB L s'])) (hk:KV v (rB L s'::τ))
  (aa:bP (cP (cK [0] (τ.length+1))) cj (args++bY):=by first|exact fK|exact wM (yE rfl)|exact wM ⟨zK,yE rfl⟩|exact wM ⟨zC rfl,zK,yE rfl⟩|exact wM ⟨zK,zK,yE rfl⟩)
  (hb:xE P f=true:=by kernel_rfl) (hn:gM v=true:=by rfl):jk P c (.fn f bY) args (rB L s::τ) KV fx:=HH hc hb aa hn hk
theorem xN {R:V->St->Prop} {L:List bQ} {s:RS} {v r:V} (hr:cP (cK (List.range 1) (rB L s::τ).length) r v) (hR:R r [rB L s]):cw (some v) 1 R (rB L s::τ):=
 yZ 1 rfl rfl (by rfl) om hr hR
theorem jt (L:List bQ) (hL:eR L) (s:RS) (hs:du L s) (w:aiA):bN prog 68 [.ptr 0 0,.str w] [rB L s] (λr I=>r= .bool (dq L w s)/\I= [rB L s]):=by
 have ht:=nz L hL s hs
 have aa:(cD L s).s.length<=maxLen:=by
  unfold cD
  rw[Al,A0 hs.at_]
  exact hL.w7 _ sm
 generalize hM:dq L w s=M
 unfold dq at hM
 obtain⟨t,ab⟩:=eX (cD L s)
 rw[ab]at hM ht aa
 have ret: ∀(r:Bool) (τ:St),r=M->cw (some (.bool r)) 1 (λr I=>r= .bool M/\I= [rB L s]) (rB L s::τ):=λr τ h=>by subst h;exact xN (zC rfl) sm
 refine iW 1 func68 ntmps68 results68 λc hc hb=>zM ?_
 simp[go_sem]
 refine pR ht ?_
 simp[go_sem,rB]
 repeat' (first|(refine xD (λq=> ?_) (λq=> ?_)<;>simp[go_sem,q])|(refine zV (λq=> ?_) (λq=> ?_)<;>simp[go_sem,q]))
 all_goals exact ret _ _ (by rw[<-hM];simp_all)
theorem DP (L:List bQ) (hL:eR L) (s:RS) (hs:du L s) (w:aiA):bN prog 67 [.ptr 0 0,.str w] [rB L s] (λr I=>r= .bool (dq L w s)/\I= [rB L (mF L w s)]):=by
 have hi:=jt L hL s hs w
 have h1:=hs.at_
 have hl:=hL.len
 have ei:IntKind.i64.wrap ((s.at_:Int)+1)=((s.at_+1:Nat):Int):=by grind[bX]
 unfold mF
 generalize dq L w s=b at hi
 refine iW 1 func67 ntmps67 results67 λc hc hb=>zM ?_
 simp[go_sem]
 refine pR hi ?_
 simp[go_sem,rB]
 refine(A6 b).elim (λq=> ?_) (λq=> ?_)
 all_goals subst q
 all_goals simp[go_sem,ei]
 .exact xN (s:=zR s) (zC rfl) (by trivial)
 .exact xN (s:=s) (zC rfl) (by trivial)
theorem AK (L:List bQ) (s:RS) (e p:Int):bN prog 72 [.ptr 0 0,.int .i64 e,.int .i64 p] [rB L s] (λr I=>r= .cz []/\I= [rB L (iF e p s)]):=by
 unfold iF
 refine iW 1 func72 ntmps72 results72 λc hc hb=>zM ?_
 simp[go_sem,rB]
 refine zV (λq=> ?_) (λq=> ?_)
 .have q:s.err=0:=by grind
  simp[go_sem,q]
  exact xN (s:={s with err:=e,place:=p}) (zC rfl) (by trivial)
 .have q: ¬s.err=0:=by grind
  simp[go_sem,q]
  exact xN (s:=s) (zC rfl) (by trivial)
theorem lC (L:List bQ) (hL:eR L) (s:RS) (hs:du L s) (w:aiA):bN prog 70 [.ptr 0 0,.str w] [rB L s] (λr I=>r= .cz []/\I= [rB L (yH L w s)]):=by
 have he:=DP L hL s hs w
 have ht:=nz L hL s hs
 have hf:=AK L s 13 (cD L s).place
 unfold mF at he
 unfold yH
 generalize dq L w s=b at he
 refine iW 1 func70 ntmps70 results70 λc hc hb=>zM ?_
 simp[go_sem]
 refine pR he ?_
 simp[go_sem]
 refine(A6 b).elim (λq=> ?_) (λq=> ?_)
 all_goals subst q
 all_goals simp[go_sem]
 .exact xN (zC rfl) sm
 .refine pR ht ?_
  simp[go_sem]
  refine pR hf ?_
  simp[go_sem]
  exact xN (zC rfl) sm
theorem DQ (L:List bQ) (hL:eR L) (s:RS) (hs:du L s):bN prog 121 [.ptr 0 0] [rB L s] (λr I=>r= .str (xC L s).1/\I= [rB L (xC L s).2]):=by
 have ht:=nz L hL s hs
 have hf:=AK L s 13 (cD L s).place
 have ad:(cD L s).s.length<=maxLen:=by
  unfold cD
  rw[Al,A0 hs.at_]
  exact hL.w7 _ sm
 have hw:=NJ (cD L s).s ad
 have h1:=hs.at_
 have hl:=hL.len
 have ei:IntKind.i64.wrap ((s.at_:Int)+1)=((s.at_+1:Nat):Int):=by grind[bX]
 have ab:FV L s=false->xC L s=([],iF 13 (cD L s).place s):=λh=>by unfold xC;grind
 have aa:FV L s=true->xC L s=((cD L s).s,zR s):=λh=>by unfold xC;grind
 generalize xC L s=M at ab aa⊢
 unfold FV at ab aa
 obtain⟨t,ae⟩:=eX (cD L s)
 rw[ae]at ht hf hw ab aa
 obtain⟨b,af⟩:=eX (lB t.s)
 rw[af]at hw ab aa
 have key:((s.err==0&&(t.kind==1&&b))=false/\(s.err !=0)=true)\/((s.err==0&&(t.kind==1&&b))=false/\(s.err !=0)=false/\(t.kind !=1)=true)\/((s.err==0&&(t.kind==1&&b))=b/\(s.err !=0)=false/\(t.kind !=1)=false):=by
  grind
 have no: ∀τ:St,M=([],iF 13 t.place s)->cw (some (.str [])) 1 (λr I=>r= .str M.1/\I= [rB L M.2]) (rB L (iF 13 t.place s)::τ):=λτ h=>by subst h;exact xN (zC rfl) sm
 refine iW 1 func121 ntmps121 results121 λc hc hb=>zM ?_
 simp[go_sem]
 refine pR ht ?_
 simp[go_sem,rB]
 refine key.elim (λ⟨q1,q2⟩=> ?_) λkey=>key.elim (λ⟨q1,q2,q3⟩=> ?_) λ⟨q1,q2,q3⟩=> ?_
 .simp[go_sem,q2]
  refine pR hf ?_
  simp[go_sem]
  exact no _ (ab q1)
 .simp[go_sem,q2,q3]
  refine pR hf ?_
  simp[go_sem]
  exact no _ (ab q1)
 .simp[go_sem,q2,q3]
  refine pC hw ?_
  refine(A6 b).elim (λq=> ?_) (λq=> ?_)
  .have hM:=aa (q1.trans q)
   subst q
   subst hM
   simp[go_sem,ei]
   exact xN (s:=zR s) (zC rfl) (by trivial)
  .have hM:=ab (q1.trans q)
   subst q
   simp[go_sem]
   refine pR hf ?_
   simp[go_sem]
   exact no _ hM
theorem FW (L:List bQ) (hL:eR L) (s:RS) (hs:du L s):bN prog 71 [.ptr 0 0] [rB L s] (λr I=>r= .int .i64 (hZ L s).1/\I= [rB L (hZ L s).2]):=by
 have ht:=nz L hL s hs
 have hf:=AK L s 13 (cD L s).place
 have h1:=hs.at_
 have hl:=hL.len
 have ei:IntKind.i64.wrap ((s.at_:Int)+1)=((s.at_+1:Nat):Int):=by grind[bX]
 have ab:tD L s=false->hZ L s=(0,iF 13 (cD L s).place s):=λh=>by unfold hZ;grind
 have aa:tD L s=true->hZ L s=((cD L s).n,zR s):=λh=>by unfold hZ;grind
 generalize hZ L s=M at ab aa⊢
 unfold tD at ab aa
 obtain⟨t,ad⟩:=eX (cD L s)
 rw[ad]at ht hf ab aa
 have key:((s.err==0&&t.kind==2)=false/\(s.err !=0)=true)\/((s.err==0&&t.kind==2)=false/\(s.err !=0)=false/\(t.kind !=2)=true)\/((s.err==0&&t.kind==2)=true/\(s.err !=0)=false/\(t.kind !=2)=false):=by
  grind
 have no: ∀τ:St,M=(0,iF 13 t.place s)->cw (some (.int .i64 0)) 1 (λr I=>r= .int .i64 M.1/\I= [rB L M.2]) (rB L (iF 13 t.place s)::τ):=λτ h=>by subst h;exact xN (zC rfl) sm
 refine iW 1 func71 ntmps71 results71 λc hc hb=>zM ?_
 simp[go_sem]
 refine pR ht ?_
 simp[go_sem,rB]
 refine key.elim (λ⟨q1,q2⟩=> ?_) λkey=>key.elim (λ⟨q1,q2,q3⟩=> ?_) λ⟨q1,q2,q3⟩=> ?_
 .simp[go_sem,q2]
  refine pR hf ?_
  simp[go_sem]
  exact no _ (ab q1)
 .simp[go_sem,q2,q3]
  refine pR hf ?_
  simp[go_sem]
  exact no _ (ab q1)
 .have hM:=aa q1
  subst hM
  simp[go_sem,q2,q3,ei]
  exact xN (s:=zR s) (zC rfl) (by trivial)
theorem AL (L:List bQ) (hL:eR L) (s:RS) (hs:du L s) (ws:List aiA) (hw:ws.length<=1000):bN prog 64 [.ptr 0 0,.sl .ro (ws.map λw=> [V.str w])] [rB L s] (λr I=>r= .str (ec L s ws)/\I= [rB L s]):=by
 generalize hM:ec L s ws=M
 have ret: ∀(r:aiA) (τ:St),r=M->cw (some (.str r)) 1 (λr I=>r= .str M/\I= [rB L s]) (rB L s::τ):=λr τ h=>by subst h;exact xN (zC rfl) sm
 refine iV 1 func64 ntmps64 results64 λc hc hb=> ?_
 refine zA ?_
 simp[go_sem]
 refine zI (S:=Nat) [0,1,5] (λi=> [.ptr 0 0,.sl .ro (ws.map λw=> [V.str w]),.int .i64 i]) (λ_=> [rB L s]) (λi=>ws.length - i) (λi=>i<=ws.length/\ec L s (ws.drop i)=M) hc hb 0 (by grind) ?_ ?_
 .exact cc 1 (by rfl) rfl (by rfl) om (zD (by rfl) rfl)
 rintro i ⟨hi,hinv⟩
 by_cases q:i<ws.length
 rotate_left
 .rw[A9 om]at hinv
  refine zA ?_
  simp[go_sem,q]
  exact ret _ _ hinv
 have ei:=zU q om
 obtain⟨w,hx⟩:=eX (ws[i])
 rw[A5 q,hx,ec]at hinv
 have aa:=jt L hL s hs w
 obtain⟨b,ab⟩:=eX (dq L w s)
 rw[ab]at aa hinv
 refine zA ?_
 simp[go_sem,q,hx]
 refine pR aa ?_
 simp[go_sem]
 refine zV (λw1=> ?_) (λw1=> ?_)
 .rw[ai2 w1]at hinv
  simp[go_sem,q,hx]
  exact ret _ _ hinv
 .rw[ai1 (by grind)]at hinv
  simp[go_sem,ei]
  exact zJ (i+1) ⟨om,(by grind),cc 1 rfl rfl (by rfl) om (zD (by rfl) rfl)⟩
theorem DR (L:List bQ) (hL:eR L) (s:RS) (hs:du L s) (ad:s.bZ<=1000):bN prog 290 [.ptr 0 0] [rB L s] (λr I=>r= .bool ((yT L s).err==0)/\I= [rB L (yT L s)]):=by
 have ho:=hs.bZ
 have ht:=nz L hL {s with bZ:=s.bZ+1} ⟨hs.at_,by grind⟩
 have e0:cD L {s with bZ:=s.bZ+1}=cD L s:=rfl
 rw[e0]at ht
 have hf:=AK L {s with bZ:=s.bZ+1} 3 (cD L s).place
 have ei:IntKind.i64.wrap (s.bZ+1)=s.bZ+1:=by grind[bX]
 refine iW 1 func290 ntmps290 results290 λc hc hb=>zM ?_
 simp[go_sem,rB,ei]
 by_cases q1:s.err=0
 .have aa:(s.err==0)=true:=by grind
  by_cases q2:s.bZ+1>200
  .have ab:decide (200<s.bZ+1)=true:=(by grind)
   have hS:yT L s=iF 3 (cD L s).place {s with bZ:=s.bZ+1}:=by simp_all[yT,iF]
   rw[hS]
   simp[go_sem,aa,ab]
   refine pR ht ?_
   simp[go_sem]
   refine pR hf ?_
   unfold iF
   rw[ai2 q1]
   simp[go_sem,rB]
   exact xN (L:=L) (s:={s with bZ:=s.bZ+1,err:=3,place:=(cD L s).place}) (zC rfl) (by trivial)
  .have ab:decide (200<s.bZ+1)=false:=(by grind)
   have hS:yT L s={s with bZ:=s.bZ+1}:=by simp_all[yT]
   rw[hS]
   simp[go_sem,aa,ab]
   exact xN (L:=L) (s:={s with bZ:=s.bZ+1}) (zC rfl) (by trivial)
 .have aa:(s.err==0)=false:=by grind
  have hS:yT L s={s with bZ:=s.bZ+1}:=by simp_all[yT]
  rw[hS]
  simp[go_sem,aa]
  exact xN (L:=L) (s:={s with bZ:=s.bZ+1}) (zC rfl) (by trivial)
theorem R1:Pure prog 292 [] (.sl .ro [[.sl .ro [[.str [79,82]]]],[.sl .ro [[.str [65,78,68]]]]]):=by
 refine iW 0 func292 ntmps292 results292 λc hc hb=>zM ?_
 simp[go_sem]
 exact zW zK sm
mutual
def ig:bJ->Nat
 | .mk _ _ _ args=>wL args+1
def wL:List bJ->Nat
 | []=>0
 |e::l=>max (ig e) (wL l)
end
variable {e:bJ}{w:aiA}{o:Int}{τ:St}{a:List bJ}
theorem uW (e:bJ):ig e=wL e.args+1:=by cases e;rfl
theorem DS: ∀(l:List bJ) (e:bJ),e∈l->ig e<=wL l
 | [],_,h=>by grind
 |x::l,e,h=>by
  rw[wL]
  rcases Ae.1 h with rfl|h
  .omega
  .have:=DS l e h;omega
inductive fB:bJ->Prop
 |mk (e:bJ) (h:e.args.length<=1000000) (ha: ∀x∈e.args,fB x):fB e
theorem fB.len (h:fB e):e.args.length<=1000000:=by cases h;omega
theorem fB.sub (h:fB e): ∀x∈e.args,fB x:=by cases h;omega
def maxD (l:List bJ) (d:Nat):Nat:=l.foldl (λd e=>max d (ig e)) d
theorem R2: ∀(l:List bJ) (d:Nat),maxD l d=max d (wL l)
 | [],d=>by grind[maxD,wL]
 |e::l,d=>by
  have:=R2 l (max d (ig e))
  unfold maxD at this⊢
  rw[Bm,this,wL]
  omega
theorem R3: ∀(n:Nat) (e:bJ),ig e<=n->n<=1000000->fB e->Pure prog 318 [.agg e.row] (.int .i64 (ig e:Int))
 |0,e,h,_,_=>by grind[uW]
 |n+1,e,h,hn,hw=>by
  have ih:=R3 n
  have ae:=uW e
  obtain⟨args,aa⟩:=eX e.args
  have hlen:=hw.len
  have ab:=hw.sub
  rw[aa]at ae hlen ab
  obtain⟨D,hD⟩:=eX (ig e)
  rw[hD]at ae h⊢
  refine iV 0 func318 ntmps318 results318 λc hc hb=> ?_
  refine zA ?_
  simp[go_sem]
  refine zI (S:=Nat×Nat) [1,3,4] (λu=> [.ptr 0 0,.int .i64 (u.2:Int),.int .i64 (u.1:Int)]) (λ_=> [.box e.row]) (λu=>args.length - u.1) (λu=>u.1<=args.length/\maxD (args.drop u.1) u.2=wL args/\u.2<=n) hc hb (0,0) (by simp[R2]) ?_ ?_
  .exact cc 1 sg rfl (by simp[bT,cS,cN,bJ.bR]) om (zD (by rfl) rfl)
  rintro⟨i,d⟩ ⟨hi,hinv,aj⟩
  simp only at hi hinv aj
  by_cases q:i<args.length
  rotate_left
  .rw[A9 om]at hinv
   have al:d=wL args:=hinv
   have ei:IntKind.i64.wrap ((d:Int)+1)=(D:Int):=by grind[bX]
   refine zA ?_
   simp[go_sem,q,aa,ei]
   exact zW (zC rfl) sm
  have ei:=zU q om
  obtain⟨x,hx⟩:=eX (args[i])
  have af:x∈args:=(by grind)
  have ak:=DS args x af
  rw[A5 q,hx]at hinv
  have ah:=ih x om om (ab x af)
  have ad:maxD (args.drop (i+1)) (max d (ig x))=wL args:=hinv
  obtain⟨dx,ai⟩:=eX (ig x)
  rw[ai]at ah ad ak
  refine zA ?_
  simp[go_sem,q,aa,hx]
  refine zL ah cB (zP sg (by rw[bJ.bR];rfl)) rfl ?_
  simp[go_sem,ei]
  refine zJ (i+1,max d dx) ⟨om,(by grind), ?_⟩
  refine cc 1 (by simp[go_sem,aa]) rfl (by simp[bT,cS,cN,bJ.bR]) om (zD ?_ rfl)
  simp[go_sem]
  omega
abbrev PR:=bJ×RS
def de:bJ:= .mk 0 [] ⟨0,0,[]⟩ []
def qP (w:aiA) (args:List bJ):bJ:= .mk 3 w ⟨0,0,[]⟩ args
def j9 (v:bK):bJ:= .mk 1 [] v []
def DT (w:aiA):bJ:= .mk 2 w ⟨0,0,[]⟩ []
def nA (place:Int) (w:aiA) (args:List bJ) (s:RS):RS:=if s.err=0/\16<ig (qP w args)then iF 3 place s else s
def ij (place:Int) (w:aiA) (args:List bJ) (s:RS):PR:=(qP w args,nA place w args s)
def jV (L:List bQ) (k:RS->PR) (s:RS):PR:=if(yT L s).err=0 then((k (yT L s)).1,dF (k (yT L s)).2)else(de,dF (yT L s))
def eT (L:List bQ) (ws:List aiA) (sub:RS->PR):Nat->PR->PR
 |0,x=>x
 |n+1,x=>if ec L x.2 ws= []then x else eT L ws sub n (ij (cD L x.2).place (ec L x.2 ws) [x.1,(sub (zR x.2)).1] (sub (zR x.2)).2)
def qQ:aiA:= [79,82]
def jN:aiA:= [65,78,68]
def ka:aiA:= [78,79,84]
def Kq:aiA:= [73,83]
def oZ:aiA:= [78,85,76,76]
def Kr:aiA:= [73,83,78,85,76,76]
def Ks:aiA:= [78,79,84,78,85,76,76]
def fX:List aiA:= [[61],[60,62],[60],[60,61],[62],[62,61]]
def o7:List aiA:= [[43],[45]]
def o8:List aiA:= [[42],[47],[37]]
def nB (L:List bQ) (rn rc:RS->PR) (s:RS):PR:=if dq L ka s=true then ij (cD L s).place ka [(rn (zR s)).1] (rn (zR s)).2 else rc s
def nC (L:List bQ) (sub:RS->PR) (x:PR):PR:=
 if dq L Kq x.2=true then
  if dq L ka (zR x.2)=true then ij (cD L x.2).place Ks [x.1] (yH L oZ (zR (zR x.2)))else ij (cD L x.2).place Kr [x.1] (yH L oZ (zR x.2))
 else if ec L x.2 fX= []then x else ij (cD L x.2).place (ec L x.2 fX) [x.1,(sub (zR x.2)).1] (sub (zR x.2)).2
def tG (L:List bQ) (un ex:RS->PR) (s:RS):PR:=
 if dq L [45] s=true then ij (cD L s).place [78,69,71] [(un (zR s)).1] (un (zR s)).2
 else if dq L [40] s=true then((ex (zR s)).1,yH L [41] (ex (zR s)).2)
 else if dq L [84,82,85,69] s=true then(j9 ⟨1,1,[]⟩,zR s)
 else if dq L [70,65,76,83,69] s=true then(j9 ⟨1,0,[]⟩,zR s)
 else if dq L oZ s=true then(j9 ⟨0,0,[]⟩,zR s)
 else if(cD L s).kind=2 then(j9 ⟨2,(cD L s).n,[]⟩,zR s)
 else if(cD L s).kind=3 then(j9 ⟨3,0,(cD L s).s⟩,zR s)
 else(DT (xC L s).1,(xC L s).2)
def ky (L:List bQ) (rec:Nat->RS->PR):Nat->RS->PR
 |0,s=>eT L [qQ] (rec 1) L.length (rec 1 s)
 |1,s=>eT L [jN] (rec 2) L.length (rec 2 s)
 |2,s=>nB L (rec 2) (rec 3) s
 |3,s=>nC L (rec 4) (rec 4 s)
 |4,s=>eT L o7 (rec 5) L.length (rec 5 s)
 |5,s=>eT L o8 (rec 6) L.length (rec 6 s)
 |_,s=>tG L (rec 6) (rec 0) s
def pF (L:List bQ):Nat->Nat->RS->PR
 |0,_,s=>(de,s)
 |f+1,w,s=>jV L (ky L (pF L f) w) s
structure PI (L:List bQ) (s:RS) (x:PR):Prop where
 cA:du L x.2
 bZ:x.2.bZ=s.bZ
 up:s.at_<=x.2.at_
 err:x.2.err=0->s.err=0/\ig x.1<=16
 wide:fB x.1
theorem DU {e p:Int} {s:RS} (he:e≠0):(iF e p s).err≠0:=by unfold iF;split<;>simp_all
theorem HI (e p:Int) (s:RS):(iF e p s).at_=s.at_:=by unfold iF;split<;>rfl
theorem HJ (e p:Int) (s:RS):(iF e p s).bZ=s.bZ:=by unfold iF;split<;>rfl
theorem NK {L:List bQ} {s:RS} (h:du L s) (e p:Int):du L (iF e p s):=⟨by rw[HI];exact h.at_,by rw[HJ];exact h.bZ⟩
theorem DV (p:Int) (w:aiA) (a:List bJ) (s:RS):(nA p w a s).at_=s.at_:=by unfold nA;split;exact HI _ _ _;rfl
theorem Kt (p:Int) (w:aiA) (a:List bJ) (s:RS):(nA p w a s).bZ=s.bZ:=by unfold nA;split;exact HJ _ _ _;rfl
theorem NL {p:Int} {s:RS} (h:(nA p w a s).err=0):s.err=0/\ig (qP w a)<=16:=by
 unfold nA at h
 split at h
 .exact absurd h (DU dC)
 .rename_i hc
  refine⟨h, ?_⟩
  by_cases q:16<ig (qP w a)
  .exact absurd ⟨h,q⟩ hc
  .omega
theorem wl9 {L:List bQ} {s:RS} (h:du L s) (p:Int) (w:aiA) (a:List bJ):du L (nA p w a s):=⟨by rw[DV];exact h.at_,by rw[Kt];exact h.bZ⟩
theorem R4 (p:Int) (w:aiA) (a:List bJ) (s:RS):nA p w a (dF s)=dF (nA p w a s):=by
 unfold nA iF dF
 by_cases q:s.err=0/\16<ig (qP w a)
 .rw[ai2 q,ai2 q,ai2 q.1,ai2 q.1]
 .rw[ai1 q,ai1 q]
theorem xD5 (w:aiA) (a:List bJ):ig (qP w a)=wL a+1:=uW _
theorem R5 (h:a.length<=1000000) (ha: ∀x∈a,fB x):fB (qP w a):= .mk _ h ha
theorem R6 (h:e.args= []):fB e:= .mk _ (by simp[h]) (by simp[h])
def RR (L:List bQ) (x:PR):V->St->Prop:=λr I=>r= .agg x.1.row/\I= [rB L x.2]
theorem wK {L:List bQ} {s:RS} {x:PR} (h:x=(e,s)):cw (some (.agg [.int .i64 e.kind,.str e.s,.int .i64 e.v.kind,.int .i64 e.v.n,.str e.v.s,.sl .ro (e.args.map bJ.row)])) 1 (RR L x) (rB L s::τ):=by
 subst h
 exact xN (zC rfl) ⟨by rw[bJ.bR],rfl⟩
theorem R7 (e:bJ):gM (.agg e.row)=true:=by rw[bJ.bR];rfl
theorem jW {P:Program} {c:Ctx} {f:FuncId} {bY args cj:List V} {L:List bQ} {s:RS} {x:PR} {KV:V->St->Prop} (hc:bN P f cj [rB L s] (RR L x)) (hb:xE P f)
  (aa:bP (cP (cK [0] (τ.length+1))) cj (args++bY)) (hk:KV (.agg x.1.row) (rB L x.2::τ)):jk P c (.fn f bY) args (rB L s::τ) KV fx:=
 HH hc hb aa (R7 _) hk
theorem rZ {P:Program} {c:Ctx} {n:Nat} {f:FuncId} {bY args cj:List V} {L:List bQ} {s:RS} {x:PR} {KV:V->St->Prop} (hc:bN P f cj [rB L s] (RR L x)) (hb:xE P f)
  (aa:bP (cP (cK [0] (τ.length+1))) cj (args++bY)) (hk:KV (.agg x.1.row) (rB L x.2::τ)):pT P c ⟨1,n,[],none⟩ 3 (.fn f bY) args (rB L s::τ) KV fx:=
 tE hc hb aa (R7 _) hk
theorem mG (L:List bQ) (s:RS) (p:Int) (w:aiA) (a:List bJ) (hl:a.length<=1000) (hw: ∀x∈a,fB x) (hd:s.err=0->wL a<=1000):
  bN prog 293 [.ptr 0 0,.int .i64 p,.str w,.sl .ro (a.map bJ.row)] [rB L s] (RR L (ij p w a s)):=by
 obtain⟨D,hD⟩:=eX (ig (qP w a))
 have ad:=xD5 w a
 rw[hD]at ad
 have hf:=AK L s 3 p
 have hS:ij p w a s=(qP w a,if s.err=0/\16<D then iF 3 p s else s):=by unfold ij nA;rw[hD]
 generalize ij p w a s=M at hS⊢
 refine iW 1 func293 ntmps293 results293 λc hc hb=>zM ?_
 by_cases q1:s.err=0
 .have aa:(s.err==0)=true:=sU q1
  have ae:=R3 1001 (qP w a) (by rw[hD,ad];have:=hd q1;omega) om (R5 om hw)
  rw[hD]at ae
  simp[go_sem,rB,aa]
  refine zL ae cB (zP (by rw[bJ.bR];rfl) rfl) rfl ?_
  simp[go_sem]
  by_cases q2:16<D
  .have ab:decide ((16:Int)<(D:Int))=true:=ai4 om
   rw[ai2 ⟨q1,q2⟩]at hS
   simp[go_sem,ab]
   refine pR hf ?_
   simp[go_sem]
   exact wK hS
  .have ab:decide ((16:Int)<(D:Int))=false:=ai3 om
   rw[ai1 (λh=>q2 h.2)]at hS
   simp[go_sem,ab]
   exact wK hS
 .have aa:(s.err==0)=false:=sU q1
  rw[ai1 (λh=>q1 h.1)]at hS
  simp[go_sem,rB,aa]
  exact wK hS
variable {L:List bQ}
theorem ov (s:RS):(zR s).at_=s.at_+1:=rfl
theorem DW {s:RS}: ∀{ws:List aiA},ec L s ws≠ []->dq L (ec L s ws) s=true
 | [],h=>absurd rfl h
 |w::ws,h=>by
  unfold ec at h⊢
  split
  .assumption
  .rename_i hn
   rw[ai1 hn]at h
   exact DW h
theorem du.next (hL:eR L) {s:RS} (h:du L s) (hi:dq L w s):du L (zR s):=hL.next h (xI2 hi).1
theorem uX (hL:eR L) {s:RS} (h:du L s):du L (yH L w s):=by
 unfold yH
 split
 .exact h.next hL ‹_›
 .exact NK h _ _
theorem DX (w:aiA) (s:RS):s.at_<=(yH L w s).at_:=by
 unfold yH
 split
 .simp[zR]
 .rw[HI];exact A7 _
theorem DY (w:aiA) (s:RS):(yH L w s).bZ=s.bZ:=by
 unfold yH
 split
 .rfl
 .exact HJ _ _ _
theorem xa {s:RS} (h:(yH L w s).err=0):s.err=0/\dq L w s=true:=by
 unfold yH at h
 split at h
 .exact⟨h,‹_›⟩
 .exact absurd h (DU dC)
theorem R8 (hL:eR L) {s:RS} (h:du L s):du L (xC L s).2:=by
 unfold xC
 split
 .rename_i hb
  unfold FV at hb
  simp only[Ac,ai8]at hb
  exact hL.next h (by rw[hb.2.1];decide)
 .exact NK h _ _
theorem R9 (s:RS):s.at_<=(xC L s).2.at_:=by
 unfold xC
 split
 .simp[zR]
 .simp only[HI];exact A7 _
theorem Sa (s:RS):(xC L s).2.bZ=s.bZ:=by
 unfold xC
 split
 .rfl
 .exact HJ _ _ _
theorem NM {s:RS} (h:(xC L s).2.err=0):s.err=0/\FV L s=true:=by
 unfold xC at h
 split at h
 .exact⟨h,‹_›⟩
 .exact absurd h (DU dC)
theorem xV2 (h:e.args= []):ig e=1:=by rw[uW,h];rfl
theorem uY {s0 s:RS} (p:Int) (w:aiA) (h1:du L s) (h2:s.bZ=s0.bZ) (h3:s0.at_<=s.at_) (h4:s.err=0->s0.err=0) (h5:a.length<=1000000) (h6: ∀x∈a,fB x):PI L s0 (ij p w a s):=
 ⟨wl9 h1 _ _ _,by show(nA p w a s).bZ=_;rw[Kt,h2],by show _<=(nA p w a s).at_;rw[DV];exact h3,λh=>⟨h4 (NL h).1,(NL h).2⟩,R5 h5 h6⟩
theorem FX (hL:eR L) {o:Int} {sub:RS->PR} (aa: ∀s,du L s->s.bZ=o->PI L s (sub s)) (ws:List aiA) {s0:RS}: ∀(n:Nat) (x:PR),PI L s0 x->s0.bZ=o->PI L s0 (eT L ws sub n x)
 |0,x,h,_=>h
 |n+1,x,h,ho=>by
  unfold eT
  split
  .exact h
  rename_i ab
  have hi:=DW ab
  have hx:=h.bZ
  have hy:=aa (zR x.2) (h.cA.next hL hi) (by show x.2.bZ=o;rw[hx,ho])
  refine FX hL aa ws n _ (uY _ _ hy.cA ?_ ?_ (λhe=>(h.err ?_).1) sm ?_) ho
  .rw[hy.bZ];exact hx
  .have h1:=hy.up;have h2:=h.up;rw[ov]at h1;omega
  .exact(hy.err he).1
  .intro e he
   simp only[Ae,Bg,aih]at he
   rcases he with rfl|rfl
   .exact h.wide
   .exact hy.wide
theorem xY6 (hL:eR L) {rn rc:RS->PR} (h1: ∀s,du L s->s.bZ=o->PI L s (rn s)) (h2: ∀s,du L s->s.bZ=o->PI L s (rc s)) (s:RS) (hs:du L s) (ho:s.bZ=o):PI L s (nB L rn rc s):=by
 unfold nB
 split
 .rename_i hi
  have hy:=h1 (zR s) (hs.next hL hi) ho
  refine uY _ _ hy.cA hy.bZ ?_ (λhe=>(hy.err he).1) sm (λe he=> ?_)
  .have h1:=hy.up;rw[ov]at h1;omega
  .simp only[Ae,Bg,aih]at he;subst he;exact hy.wide
 .exact h2 s hs ho
theorem xV0 (hL:eR L) {sub:RS->PR} (aa: ∀s,du L s->s.bZ=o->PI L s (sub s)) (s:RS) (ho:s.bZ=o) (x:PR) (h:PI L s x):PI L s (nC L sub x):=by
 have hx:=h.bZ
 have hu:=h.up
 have w1: ∀e∈ [x.1],fB e:=λe he=>by simp only[Ae,Bg,aih]at he;subst he;exact h.wide
 unfold nC
 split
 .rename_i hi
  have hn:=h.cA.next hL hi
  split
  .rename_i ab
   have ad:=hn.next hL ab
   refine uY _ _ (uX hL ad) ?_ ?_ (λhe=>(h.err ?_).1) sm w1
   .rw[DY];exact hx
   .have:=DX (L:=L) oZ (zR (zR x.2));simp only[zR]at this⊢;omega
   .exact(xa he).1
  .refine uY _ _ (uX hL hn) ?_ ?_ (λhe=>(h.err ?_).1) sm w1
   .rw[DY];exact hx
   .have:=DX (L:=L) oZ (zR x.2);simp only[zR]at this⊢;omega
   .exact(xa he).1
 .split
  .exact h
  rename_i ae
  have hi:=DW ae
  have hy:=aa (zR x.2) (h.cA.next hL hi) (by show x.2.bZ=o;rw[hx,ho])
  refine uY _ _ hy.cA ?_ ?_ (λhe=>(h.err ?_).1) sm ?_
  .rw[hy.bZ];exact hx
  .have h1:=hy.up;rw[ov]at h1;omega
  .exact(hy.err he).1
  .intro e he
   simp only[Ae,Bg,aih]at he
   rcases he with rfl|rfl
   .exact h.wide
   .exact hy.wide
theorem DZ {s:RS} (ha:e.args= []) {s2:RS} (h1:du L s2) (h2:s2.bZ=s.bZ) (h3:s.at_<=s2.at_) (h4:s2.err=0->s.err=0):PI L s (e,s2):=
 ⟨h1,h2,h3,λh=>⟨h4 h,by simp only;rw[xV2 ha];decide⟩,R6 ha⟩
theorem Sb (hL:eR L) {un ex:RS->PR} (h1: ∀s,du L s->s.bZ=o->PI L s (un s)) (h2: ∀s,du L s->s.bZ=o->PI L s (ex s)) (s:RS) (hs:du L s) (ho:s.bZ=o):PI L s (tG L un ex s):=by
 unfold tG
 split
 .rename_i hi
  have hy:=h1 (zR s) (hs.next hL hi) ho
  refine uY _ _ hy.cA hy.bZ ?_ (λhe=>(hy.err he).1) sm (λe he=> ?_)
  .have h1:=hy.up;rw[ov]at h1;omega
  .simp only[Ae,Bg,aih]at he;subst he;exact hy.wide
 split
 .rename_i hi
  have hy:=h2 (zR s) (hs.next hL hi) ho
  refine⟨uX hL hy.cA, ?_, ?_,λhe=> ?_,hy.wide⟩
  .rw[DY];exact hy.bZ
  .have h1:=hy.up;have h2:=DX (L:=L) [41] (ex (zR s)).2;rw[ov]at h1;show _<=(yH L [41] (ex (zR s)).2).at_;omega
  .have:=hy.err (xa he).1;exact this
 split
 .exact DZ rfl (hs.next hL ‹_›) rfl (by simp[zR]) id
 split
 .exact DZ rfl (hs.next hL ‹_›) rfl (by simp[zR]) id
 split
 .exact DZ rfl (hs.next hL ‹_›) rfl (by simp[zR]) id
 split
 .exact DZ rfl (hL.next hs om) rfl (by simp[zR]) id
 split
 .exact DZ rfl (hL.next hs om) rfl (by simp[zR]) id
 .exact DZ rfl (R8 hL hs) (Sa s) (R9 s) (λh=>(NM h).1)
theorem xC4 (hL:eR L) {rec:Nat->RS->PR} (h: ∀w s,du L s->s.bZ=o->PI L s (rec w s)): ∀(w:Nat) (s:RS),du L s->s.bZ=o->PI L s (ky L rec w s)
 |0,s,hs,ho=>FX hL (h 1) _ _ _ (h 1 s hs ho) ho
 |1,s,hs,ho=>FX hL (h 2) _ _ _ (h 2 s hs ho) ho
 |2,s,hs,ho=>xY6 hL (h 2) (h 3) s hs ho
 |3,s,hs,ho=>xV0 hL (h 4) s ho _ (h 4 s hs ho)
 |4,s,hs,ho=>FX hL (h 5) _ _ _ (h 5 s hs ho) ho
 |5,s,hs,ho=>FX hL (h 6) _ _ _ (h 6 s hs ho) ho
 |_w+6,s,hs,ho=>Sb hL (h 6) (h 0) s hs ho
theorem Ku (s:RS):(yT L s).at_=s.at_:=by unfold yT;split<;>rfl
theorem qR (s:RS):(yT L s).bZ=s.bZ+1:=by unfold yT;split<;>rfl
theorem uZ {s:RS} (h:(yT L s).err=0):s.err=0/\s.bZ+1<=200:=by
 unfold yT at h
 split at h
 .simp at h
 .rename_i hc
  refine⟨h, ?_⟩
  by_cases q:s.bZ+1>200
  .exact absurd ⟨h,q⟩ hc
  .omega
theorem u7 {s:RS} (hs:du L s) (h:s.bZ<=200):du L (yT L s):=⟨by rw[Ku];exact hs.at_,by rw[qR];have:=hs.bZ;omega⟩
theorem Sc {s:RS} (hs:du L s) (h:1<=s.bZ):du L (dF s):=⟨hs.at_,by have:=hs.bZ;simp only[dF];omega⟩
theorem xO1 {k:RS->PR} (s:RS) (hs:du L s) (h2:s.bZ<=200) (hk:(yT L s).err=0->PI L (yT L s) (k (yT L s))):PI L s (jV L k s):=by
 have hr:=u7 hs h2
 have ho:=hs.bZ
 unfold jV
 split
 .rename_i he
  have hy:=hk he
  have h1:=hy.bZ
  have h3:=hy.up
  rw[qR]at h1
  rw[Ku]at h3
  refine⟨Sc hy.cA om, ?_,h3,λh=>⟨(uZ he).1,(hy.err h).2⟩,hy.wide⟩
  simp only[dF]
  omega
 .rename_i he
  refine DZ rfl (Sc hr (by rw[qR];omega)) ?_ ?_ (λh=>absurd h he)
  .simp only[dF,qR];omega
  .simp only[dF,Ku];exact A7 _
theorem Kv (hL:eR L): ∀(f:Nat) (w:Nat) (s:RS),du L s->s.bZ<=200->201<=(f:Int)+s.bZ->PI L s (pF L f w s)
 |0,w,s,hs,h2,hf=>by omega
 |f+1,w,s,hs,h2,hf=>by
  unfold pF
  refine xO1 s hs h2 (λhe=> ?_)
  have h3:=(uZ he).2
  exact xC4 hL (o:=s.bZ+1) (λw t ht ho=>Kv hL f w t ht om (by push_cast at hf;omega)) w _ (u7 hs h2) (qR s)
structure PW (L:List bQ) (rec:Nat->RS->PR) (o:Int):Prop where
 ok: ∀w s,du L s->s.bZ=o->PI L s (rec w s)
 chain: ∀k:Nat,k<=1-> ∀s,du L s->s.bZ=o->bN prog 246 [.ptr 0 0,.int .i64 (k:Int)] [rB L s] (RR L (rec k s))
 not: ∀s,du L s->s.bZ=o->bN prog 317 [.ptr 0 0] [rB L s] (RR L (rec 2 s))
 cmp: ∀s,du L s->s.bZ=o->bN prog 329 [.ptr 0 0] [rB L s] (RR L (rec 3 s))
 sum: ∀s,du L s->s.bZ=o->bN prog 335 [.ptr 0 0] [rB L s] (RR L (rec 4 s))
 prod: ∀s,du L s->s.bZ=o->bN prog 336 [.ptr 0 0] [rB L s] (RR L (rec 5 s))
 unary: ∀s,du L s->s.bZ=o->bN prog 337 [.ptr 0 0] [rB L s] (RR L (rec 6 s))
theorem AM {g:Tag} {L:List bQ} {s:RS} {x:PR} (h:x=(e,s)):cw (some (.agg [.int .i64 e.kind,.str e.s,.int .i64 e.v.kind,.int .i64 e.v.n,.str e.v.s,.sl g (e.args.map bJ.row)])) 1 (RR L x) (rB L s::τ):=by
 subst h
 refine xN (r:= .agg [.int .i64 e.kind,.str e.s,.int .i64 e.v.kind,.int .i64 e.v.n,.str e.v.s,.sl .ro (e.args.map bJ.row)]) (wN ⟨zF rfl,zF rfl,zF rfl,zF rfl,zF rfl,zX,tV⟩) ⟨by rw[bJ.bR],rfl⟩
def zB:Ob:= .box [.int .i64 0,.str [],.int .i64 0,.int .i64 0,.str [],.sl .full []]
theorem Ea (h0:0<=o) (h1:o<=1000):IntKind.i64.wrap (o - 1)=o - 1:=bX om om
theorem wr9 (L:List bQ) (hL:eR L) (rec:Nat->RS->PR) (s:RS) (hs:du L s) (h2:s.bZ<=200) (ak:s.bZ+1<=200->PW L rec (s.bZ+1)):
  bN prog 335 [.ptr 0 0] [rB L s] (RR L (jV L (ky L rec 4) s)):=by
 have hr:=DR L hL s hs om
 have aa:=u7 hs h2
 have ab:=qR (L:=L) s
 have al:=uZ (L:=L) (s:=s)
 have ho:=hs.bZ
 have hM:jV L (ky L rec 4) s=if(yT L s).err=0 then((eT L o7 (rec 5) L.length (rec 5 (yT L s))).1,dF (eT L o7 (rec 5) L.length (rec 5 (yT L s))).2)else(de,dF (yT L s)):=rfl
 generalize jV L (ky L rec 4) s=M at hM⊢
 generalize yT L s=s1 at hr aa ab al hM
 have eo:=Ea (o:=s1.bZ) om om
 refine iV 1 func335 ntmps335 results335 λc hc hb=> ?_
 by_cases q1:s1.err=0
 rotate_left
 .have af:(s1.err==0)=false:=sU q1
  rw[ai1 q1]at hM
  rw[af]at hr
  refine zA ?_
  simp[go_sem]
  refine pR hr ?_
  simp[go_sem,rB,eo]
  exact AM (e:=de) (s:=dF s1) hM
 have af:(s1.err==0)=true:=sU q1
 rw[ai2 q1]at hM
 rw[af]at hr
 have hP:=ak (al q1).2
 have ah:=hP.ok 5 s1 aa ab
 have an:=hP.prod s1 aa ab
 generalize rec 5 s1=x0 at ah an hM
 have ae:=AL L hL x0.2 ah.cA o7 dC
 obtain⟨N,hN⟩:=eX L.length
 rw[hN]at hM
 refine zA ?_
 simp[go_sem]
 refine pR hr ?_
 simp[go_sem]
 refine jW an cB fK ?_
 simp[go_sem]
 refine pR ae ?_
 simp[go_sem]
 refine zI (S:=PR) [0,2,3,4] (λx=> [.ptr 0 0,.ptr 1 0,.ptr 2 0,.str (ec L x.2 o7)]) (λx=> [rB L x.2,zB,.box x.1.row]) (λx=>N - x.2.at_) (λx=>PI L s1 x/\ ∃n,N<=n+x.2.at_/\((eT L o7 (rec 5) n x).1,dF (eT L o7 (rec 5) n x).2)=M) hc hb x0 ⟨ah,N,om,hM.symm⟩ ?_ ?_
 .exact cc 3 (by simp[go_sem,zB]) rfl (by simp[rB,zB,bT,cS,cN,bJ.bR]) dC (zD sg rfl)
 rintro x ⟨hx,n,hn,hinv⟩
 have ay:=hx.cA.at_
 have ae:=AL L hL x.2 hx.cA o7 dC
 have ao:=nz L hL x.2 hx.cA
 have ad:=hx.bZ
 by_cases q:ec L x.2 o7= []
 .have av:M=(x.1,dF x.2):=by
   cases n with
   |zero=>exact hinv.symm
   |succ n=>rw[eT,ai2 q]at hinv;exact hinv.symm
  have aw:IntKind.i64.wrap (x.2.bZ - 1)=x.2.bZ - 1:=by rw[ad];exact eo
  refine zA ?_
  simp[go_sem,q,rB,aw]
  exact wK (s:=dF x.2) av
 obtain⟨n,rfl⟩: ∃m,n=m+1:=⟨n - 1,om⟩
 rw[eT,ai1 q]at hinv
 have hi:=DW q
 have aq:=hx.cA.next hL hi
 have hy:=hP.ok 5 (zR x.2) aq (by show x.2.bZ=_;rw[ad,ab])
 have ar:=hP.prod (zR x.2) aq (by show x.2.bZ=_;rw[ad,ab])
 generalize rec 5 (zR x.2)=y at hy ar hinv
 have ax:=hy.up
 rw[ov]at ax
 have hz:PI L s1 (ij (cD L x.2).place (ec L x.2 o7) [x.1,y.1] y.2):=uY _ _ hy.cA (by rw[hy.bZ];exact ad) (by have:=hx.up;omega) (λhe=>(hx.err (hy.err he).1).1) sm (λe he=>by
  simp only[Ae,Bg,aih]at he
  rcases he with rfl|rfl
  .exact hx.wide
  .exact hy.wide)
 have ai:=mG L y.2 (cD L x.2).place (ec L x.2 o7) [x.1,y.1] sm (λe he=>by
  simp only[Ae,Bg,aih]at he
  rcases he with rfl|rfl
  .exact hx.wide
  .exact hy.wide) (λhe=>by
   have h1:=(hy.err he).2
   have h2:=(hx.err (hy.err he).1).2
   simp only[wL]
   omega)
 have au:(ij (cD L x.2).place (ec L x.2 o7) [x.1,y.1] y.2).2.at_=y.2.at_:=DV _ _ _ _
 generalize ij (cD L x.2).place (ec L x.2 o7) [x.1,y.1] y.2=z at hz ai hinv au
 have aj:=AL L hL z.2 hz.cA o7 dC
 have az:=hz.cA.at_
 have hl:=hL.len
 have ei:IntKind.i64.wrap ((x.2.at_:Int)+1)=((x.2.at_+1:Nat):Int):=by rw[bX om om];omega
 have q':(ec L x.2 o7).isEmpty=false:=sU q
 refine zA ?_
 simp[go_sem,q']
 refine pR ao ?_
 simp[go_sem,rB,ei]
 simp only[Ah,Bp,bJ.bR]at ai
 refine wJ [(3,1),(5,3),(7,3)] 1 3 sm kR kR ?_
 simp[go_sem]
 refine rZ ar cB fK ?_
 simp[go_sem,bJ.bR]
 refine rZ ai cB (wM ⟨zC rfl,zC rfl,zK,tV⟩) ?_
 simp[go_sem,bJ.bR]
 refine pR aj ?_
 simp[go_sem]
 refine zJ z ⟨om,⟨hz,n,om,hinv⟩, ?_⟩
 exact cc 3 (by simp[go_sem,rB,zB,bJ.bR]) rfl (by simp[zB,bT,cS,cN,bJ.bR]) dC (zD sg rfl)
theorem wm4 (L:List bQ) (hL:eR L) (rec:Nat->RS->PR) (s:RS) (hs:du L s) (h2:s.bZ<=200) (ak:s.bZ+1<=200->PW L rec (s.bZ+1)):
  bN prog 336 [.ptr 0 0] [rB L s] (RR L (jV L (ky L rec 5) s)):=by
 have hr:=DR L hL s hs om
 have aa:=u7 hs h2
 have ab:=qR (L:=L) s
 have al:=uZ (L:=L) (s:=s)
 have ho:=hs.bZ
 have hM:jV L (ky L rec 5) s=if(yT L s).err=0 then((eT L o8 (rec 6) L.length (rec 6 (yT L s))).1,dF (eT L o8 (rec 6) L.length (rec 6 (yT L s))).2)else(de,dF (yT L s)):=rfl
 generalize jV L (ky L rec 5) s=M at hM⊢
 generalize yT L s=s1 at hr aa ab al hM
 have eo:=Ea (o:=s1.bZ) om om
 refine iV 1 func336 ntmps336 results336 λc hc hb=> ?_
 by_cases q1:s1.err=0
 rotate_left
 .have af:(s1.err==0)=false:=sU q1
  rw[ai1 q1]at hM
  rw[af]at hr
  refine zA ?_
  simp[go_sem]
  refine pR hr ?_
  simp[go_sem,rB,eo]
  exact AM (e:=de) (s:=dF s1) hM
 have af:(s1.err==0)=true:=sU q1
 rw[ai2 q1]at hM
 rw[af]at hr
 have hP:=ak (al q1).2
 have ah:=hP.ok 6 s1 aa ab
 have an:=hP.unary s1 aa ab
 generalize rec 6 s1=x0 at ah an hM
 have ae:=AL L hL x0.2 ah.cA o8 dC
 obtain⟨N,hN⟩:=eX L.length
 rw[hN]at hM
 refine zA ?_
 simp[go_sem]
 refine pR hr ?_
 simp[go_sem]
 refine jW an cB fK ?_
 simp[go_sem]
 refine pR ae ?_
 simp[go_sem]
 refine zI (S:=PR) [0,2,3,4] (λx=> [.ptr 0 0,.ptr 1 0,.ptr 2 0,.str (ec L x.2 o8)]) (λx=> [rB L x.2,zB,.box x.1.row]) (λx=>N - x.2.at_) (λx=>PI L s1 x/\ ∃n,N<=n+x.2.at_/\((eT L o8 (rec 6) n x).1,dF (eT L o8 (rec 6) n x).2)=M) hc hb x0 ⟨ah,N,om,hM.symm⟩ ?_ ?_
 .exact cc 3 (by simp[go_sem,zB]) rfl (by simp[rB,zB,bT,cS,cN,bJ.bR]) dC (zD sg rfl)
 rintro x ⟨hx,n,hn,hinv⟩
 have ay:=hx.cA.at_
 have ae:=AL L hL x.2 hx.cA o8 dC
 have ao:=nz L hL x.2 hx.cA
 have ad:=hx.bZ
 by_cases q:ec L x.2 o8= []
 .have av:M=(x.1,dF x.2):=by
   cases n with
   |zero=>exact hinv.symm
   |succ n=>rw[eT,ai2 q]at hinv;exact hinv.symm
  have aw:IntKind.i64.wrap (x.2.bZ - 1)=x.2.bZ - 1:=by rw[ad];exact eo
  refine zA ?_
  simp[go_sem,q,rB,aw]
  exact wK (s:=dF x.2) av
 obtain⟨n,rfl⟩: ∃m,n=m+1:=⟨n - 1,om⟩
 rw[eT,ai1 q]at hinv
 have hi:=DW q
 have aq:=hx.cA.next hL hi
 have hy:=hP.ok 6 (zR x.2) aq (by show x.2.bZ=_;rw[ad,ab])
 have ar:=hP.unary (zR x.2) aq (by show x.2.bZ=_;rw[ad,ab])
 generalize rec 6 (zR x.2)=y at hy ar hinv
 have ax:=hy.up
 rw[ov]at ax
 have hz:PI L s1 (ij (cD L x.2).place (ec L x.2 o8) [x.1,y.1] y.2):=uY _ _ hy.cA (by rw[hy.bZ];exact ad) (by have:=hx.up;omega) (λhe=>(hx.err (hy.err he).1).1) sm (λe he=>by
  simp only[Ae,Bg,aih]at he
  rcases he with rfl|rfl
  .exact hx.wide
  .exact hy.wide)
 have ai:=mG L y.2 (cD L x.2).place (ec L x.2 o8) [x.1,y.1] sm (λe he=>by
  simp only[Ae,Bg,aih]at he
  rcases he with rfl|rfl
  .exact hx.wide
  .exact hy.wide) (λhe=>by
   have h1:=(hy.err he).2
   have h2:=(hx.err (hy.err he).1).2
   simp only[wL]
   omega)
 have au:(ij (cD L x.2).place (ec L x.2 o8) [x.1,y.1] y.2).2.at_=y.2.at_:=DV _ _ _ _
 generalize ij (cD L x.2).place (ec L x.2 o8) [x.1,y.1] y.2=z at hz ai hinv au
 have aj:=AL L hL z.2 hz.cA o8 dC
 have az:=hz.cA.at_
 have hl:=hL.len
 have ei:IntKind.i64.wrap ((x.2.at_:Int)+1)=((x.2.at_+1:Nat):Int):=by rw[bX om om];omega
 have q':(ec L x.2 o8).isEmpty=false:=sU q
 refine zA ?_
 simp[go_sem,q']
 refine pR ao ?_
 simp[go_sem,rB,ei]
 simp only[Ah,Bp,bJ.bR]at ai
 refine wJ [(3,1),(5,3),(7,3)] 1 3 sm kR kR ?_
 simp[go_sem]
 refine rZ ar cB fK ?_
 simp[go_sem,bJ.bR]
 refine rZ ai cB (wM ⟨zC rfl,zC rfl,zK,tV⟩) ?_
 simp[go_sem,bJ.bR]
 refine pR aj ?_
 simp[go_sem]
 refine zJ z ⟨om,⟨hz,n,om,hinv⟩, ?_⟩
 exact cc 3 (by simp[go_sem,rB,zB,bJ.bR]) rfl (by simp[zB,bT,cS,cN,bJ.bR]) dC (zD sg rfl)
theorem Sd (L:List bQ) (rec:Nat->RS->PR) (o:Int) (hP:PW L rec o) (s:RS) (hs:du L s) (ho:s.bZ=o):bN prog 291 [.ptr 0 0,.int .i64 0] [rB L s] (RR L (rec 1 s)):=by
 have aa:=hP.chain 1 (A7 _) s hs ho
 generalize rec 1 s=x at aa⊢
 refine iW 1 func291 ntmps291 results291 λc hc hb=>zM ?_
 simp[go_sem]
 refine jW aa cB (wM ⟨zC rfl,tV⟩) ?_
 simp[go_sem,bJ.bR]
 exact wK rfl
theorem Se (L:List bQ) (rec:Nat->RS->PR) (o:Int) (hP:PW L rec o) (s:RS) (hs:du L s) (ho:s.bZ=o):bN prog 291 [.ptr 0 0,.int .i64 1] [rB L s] (RR L (rec 2 s)):=by
 have aa:=hP.not s hs ho
 generalize rec 2 s=x at aa⊢
 refine iW 1 func291 ntmps291 results291 λc hc hb=>zM ?_
 simp[go_sem]
 refine jW aa cB fK ?_
 simp[go_sem,bJ.bR]
 exact wK rfl
theorem Sf (L:List bQ) (s:RS) (w:aiA) (hw:w≠ []):(ec L s [w]= []↔dq L w s=false)/\(dq L w s=true->ec L s [w]=w):=by
 unfold ec
 cases dq L w s
 .simp[ec]
 .simp[hw]
theorem xC9 (L:List bQ) (hL:eR L) (rec:Nat->RS->PR) (s:RS) (hs:du L s) (h2:s.bZ<=200) (ak:s.bZ+1<=200->PW L rec (s.bZ+1)):
  bN prog 246 [.ptr 0 0,.int .i64 0] [rB L s] (RR L (jV L (ky L rec 0) s)):=by
 have hr:=DR L hL s hs om
 have aa:=u7 hs h2
 have ab:=qR (L:=L) s
 have al:=uZ (L:=L) (s:=s)
 have ho:=hs.bZ
 have hM:jV L (ky L rec 0) s=if(yT L s).err=0 then((eT L [qQ] (rec 1) L.length (rec 1 (yT L s))).1,dF (eT L [qQ] (rec 1) L.length (rec 1 (yT L s))).2)else(de,dF (yT L s)):=rfl
 generalize jV L (ky L rec 0) s=M at hM⊢
 generalize yT L s=s1 at hr aa ab al hM
 have eo:=Ea (o:=s1.bZ) om om
 have ad:=R1
 refine iV 1 func246 ntmps246 results246 λc hc hb=> ?_
 by_cases q1:s1.err=0
 rotate_left
 .have ai:(s1.err==0)=false:=sU q1
  rw[ai1 q1]at hM
  rw[ai]at hr
  refine zA ?_
  simp[go_sem]
  refine pR hr ?_
  simp[go_sem,rB,eo]
  exact AM (e:=de) (s:=dF s1) hM
 have ai:(s1.err==0)=true:=sU q1
 rw[ai2 q1]at hM
 rw[ai]at hr
 have hP:=ak (al q1).2
 have an:=hP.ok 1 s1 aa ab
 have ao:=Sd L rec _ hP s1 aa ab
 generalize rec 1 s1=x0 at an ao hM
 obtain⟨N,hN⟩:=eX L.length
 rw[hN]at hM
 refine zA ?_
 simp[go_sem]
 refine pR hr ?_
 simp[go_sem]
 refine jW ao cB (wM ⟨zC rfl,tV⟩) ?_
 simp[go_sem]
 refine zI (S:=PR) [0,1,4,5] (λx=> [.ptr 0 0,.int .i64 0,.ptr 1 0,.ptr 2 0]) (λx=> [rB L x.2,zB,.box x.1.row]) (λx=>N - x.2.at_) (λx=>PI L s1 x/\ ∃n,N<=n+x.2.at_/\((eT L [qQ] (rec 1) n x).1,dF (eT L [qQ] (rec 1) n x).2)=M) hc hb x0 ⟨an,N,om,hM.symm⟩ ?_ ?_
 .exact cc 3 (by simp[go_sem,zB]) rfl (by simp[rB,zB,bT,cS,cN,bJ.bR]) dC (zD sg rfl)
 rintro x ⟨hx,n,hn,hinv⟩
 have a7:=hx.cA.at_
 have ae:=jt L hL x.2 hx.cA qQ
 have aq:=nz L hL x.2 hx.cA
 have af:=hx.bZ
 obtain⟨ax,ay⟩:=Sf L x.2 qQ dC
 by_cases q:dq L qQ x.2=false
 .rw[q]at ae
  have az:M=(x.1,dF x.2):=by
   cases n with
   |zero=>exact hinv.symm
   |succ n=>rw[eT,ai2 (ax.2 q)]at hinv;exact hinv.symm
  have a1:IntKind.i64.wrap (x.2.bZ - 1)=x.2.bZ - 1:=by rw[af];exact eo
  refine zA ?_
  simp[go_sem]
  refine pC ad ?_
  simp[go_sem]
  refine pR ae ?_
  simp[go_sem,rB,a1]
  exact wK (s:=dF x.2) az
 have q:dq L qQ x.2:=sU q
 rw[q]at ae
 obtain⟨n,rfl⟩: ∃m,n=m+1:=⟨n - 1,om⟩
 have ah:=ay q
 rw[eT,ai1 (by rw[ah];decide),ah]at hinv
 have ar:=hx.cA.next hL q
 have hy:=hP.ok 1 (zR x.2) ar (by show x.2.bZ=_;rw[af,ab])
 have au:=Sd L rec _ hP (zR x.2) ar (by show x.2.bZ=_;rw[af,ab])
 generalize rec 1 (zR x.2)=y at hy au hinv
 have a6:=hy.up
 rw[ov]at a6
 have av: ∀e∈ [x.1,y.1],fB e:=λe he=>by
  simp only[Ae,Bg,aih]at he
  rcases he with rfl|rfl
  .exact hx.wide
  .exact hy.wide
 have hz:PI L s1 (ij (cD L x.2).place qQ [x.1,y.1] y.2):=uY _ _ hy.cA (by rw[hy.bZ];exact af) (by have:=hx.up;omega) (λhe=>(hx.err (hy.err he).1).1) sm av
 have aj:=mG L y.2 (cD L x.2).place qQ [x.1,y.1] sm av (λhe=>by
   have h1:=(hy.err he).2
   have h2:=(hx.err (hy.err he).1).2
   simp only[wL]
   omega)
 have aw:(ij (cD L x.2).place qQ [x.1,y.1] y.2).2.at_=y.2.at_:=DV _ _ _ _
 generalize ij (cD L x.2).place qQ [x.1,y.1] y.2=z at hz aj hinv aw
 have a8:=hz.cA.at_
 have hl:=hL.len
 have ei:IntKind.i64.wrap ((x.2.at_:Int)+1)=((x.2.at_+1:Nat):Int):=by rw[bX om om];omega
 simp only[Ah,Bp,bJ.bR]at aj
 refine zA ?_
 simp[go_sem]
 refine pC ad ?_
 simp[go_sem]
 refine pR ae ?_
 simp[go_sem]
 refine pR aq ?_
 simp[go_sem,rB,ei]
 refine wJ [(2,0),(11,3),(13,3)] 1 3 sm kR kR ?_
 simp[go_sem]
 refine pD ad ?_
 simp[go_sem]
 refine rZ au cB (wM ⟨zC rfl,tV⟩) ?_
 simp[go_sem,bJ.bR]
 refine rZ aj cB (wM ⟨zC rfl,zC rfl,zK,tV⟩) ?_
 simp[go_sem,bJ.bR]
 refine zJ z ⟨om,⟨hz,n,om,hinv⟩, ?_⟩
 exact cc 3 (by simp[go_sem,rB,zB,bJ.bR]) rfl (by simp[zB,bT,cS,cN,bJ.bR]) dC (zD sg rfl)
theorem xD0 (L:List bQ) (hL:eR L) (rec:Nat->RS->PR) (s:RS) (hs:du L s) (h2:s.bZ<=200) (ak:s.bZ+1<=200->PW L rec (s.bZ+1)):
  bN prog 246 [.ptr 0 0,.int .i64 1] [rB L s] (RR L (jV L (ky L rec 1) s)):=by
 have hr:=DR L hL s hs om
 have aa:=u7 hs h2
 have ab:=qR (L:=L) s
 have al:=uZ (L:=L) (s:=s)
 have ho:=hs.bZ
 have hM:jV L (ky L rec 1) s=if(yT L s).err=0 then((eT L [jN] (rec 2) L.length (rec 2 (yT L s))).1,dF (eT L [jN] (rec 2) L.length (rec 2 (yT L s))).2)else(de,dF (yT L s)):=rfl
 generalize jV L (ky L rec 1) s=M at hM⊢
 generalize yT L s=s1 at hr aa ab al hM
 have eo:=Ea (o:=s1.bZ) om om
 have ad:=R1
 refine iV 1 func246 ntmps246 results246 λc hc hb=> ?_
 by_cases q1:s1.err=0
 rotate_left
 .have ai:(s1.err==0)=false:=sU q1
  rw[ai1 q1]at hM
  rw[ai]at hr
  refine zA ?_
  simp[go_sem]
  refine pR hr ?_
  simp[go_sem,rB,eo]
  exact AM (e:=de) (s:=dF s1) hM
 have ai:(s1.err==0)=true:=sU q1
 rw[ai2 q1]at hM
 rw[ai]at hr
 have hP:=ak (al q1).2
 have an:=hP.ok 2 s1 aa ab
 have ao:=Se L rec _ hP s1 aa ab
 generalize rec 2 s1=x0 at an ao hM
 obtain⟨N,hN⟩:=eX L.length
 rw[hN]at hM
 refine zA ?_
 simp[go_sem]
 refine pR hr ?_
 simp[go_sem]
 refine jW ao cB (wM ⟨zC rfl,tV⟩) ?_
 simp[go_sem]
 refine zI (S:=PR) [0,1,4,5] (λx=> [.ptr 0 0,.int .i64 1,.ptr 1 0,.ptr 2 0]) (λx=> [rB L x.2,zB,.box x.1.row]) (λx=>N - x.2.at_) (λx=>PI L s1 x/\ ∃n,N<=n+x.2.at_/\((eT L [jN] (rec 2) n x).1,dF (eT L [jN] (rec 2) n x).2)=M) hc hb x0 ⟨an,N,om,hM.symm⟩ ?_ ?_
 .exact cc 3 (by simp[go_sem,zB]) rfl (by simp[rB,zB,bT,cS,cN,bJ.bR]) dC (zD sg rfl)
 rintro x ⟨hx,n,hn,hinv⟩
 have a7:=hx.cA.at_
 have ae:=jt L hL x.2 hx.cA jN
 have aq:=nz L hL x.2 hx.cA
 have af:=hx.bZ
 obtain⟨ax,ay⟩:=Sf L x.2 jN dC
 by_cases q:dq L jN x.2=false
 .rw[q]at ae
  have az:M=(x.1,dF x.2):=by
   cases n with
   |zero=>exact hinv.symm
   |succ n=>rw[eT,ai2 (ax.2 q)]at hinv;exact hinv.symm
  have a1:IntKind.i64.wrap (x.2.bZ - 1)=x.2.bZ - 1:=by rw[af];exact eo
  refine zA ?_
  simp[go_sem]
  refine pC ad ?_
  simp[go_sem]
  refine pR ae ?_
  simp[go_sem,rB,a1]
  exact wK (s:=dF x.2) az
 have q:dq L jN x.2:=sU q
 rw[q]at ae
 obtain⟨n,rfl⟩: ∃m,n=m+1:=⟨n - 1,om⟩
 have ah:=ay q
 rw[eT,ai1 (by rw[ah];decide),ah]at hinv
 have ar:=hx.cA.next hL q
 have hy:=hP.ok 2 (zR x.2) ar (by show x.2.bZ=_;rw[af,ab])
 have au:=Se L rec _ hP (zR x.2) ar (by show x.2.bZ=_;rw[af,ab])
 generalize rec 2 (zR x.2)=y at hy au hinv
 have a6:=hy.up
 rw[ov]at a6
 have av: ∀e∈ [x.1,y.1],fB e:=λe he=>by
  simp only[Ae,Bg,aih]at he
  rcases he with rfl|rfl
  .exact hx.wide
  .exact hy.wide
 have hz:PI L s1 (ij (cD L x.2).place jN [x.1,y.1] y.2):=uY _ _ hy.cA (by rw[hy.bZ];exact af) (by have:=hx.up;omega) (λhe=>(hx.err (hy.err he).1).1) sm av
 have aj:=mG L y.2 (cD L x.2).place jN [x.1,y.1] sm av (λhe=>by
   have h1:=(hy.err he).2
   have h2:=(hx.err (hy.err he).1).2
   simp only[wL]
   omega)
 have aw:(ij (cD L x.2).place jN [x.1,y.1] y.2).2.at_=y.2.at_:=DV _ _ _ _
 generalize ij (cD L x.2).place jN [x.1,y.1] y.2=z at hz aj hinv aw
 have a8:=hz.cA.at_
 have hl:=hL.len
 have ei:IntKind.i64.wrap ((x.2.at_:Int)+1)=((x.2.at_+1:Nat):Int):=by rw[bX om om];omega
 simp only[Ah,Bp,bJ.bR]at aj
 refine zA ?_
 simp[go_sem]
 refine pC ad ?_
 simp[go_sem]
 refine pR ae ?_
 simp[go_sem]
 refine pR aq ?_
 simp[go_sem,rB,ei]
 refine wJ [(2,0),(11,3),(13,3)] 1 3 sm kR kR ?_
 simp[go_sem]
 refine pD ad ?_
 simp[go_sem]
 refine rZ au cB (wM ⟨zC rfl,tV⟩) ?_
 simp[go_sem,bJ.bR]
 refine rZ aj cB (wM ⟨zC rfl,zC rfl,zK,tV⟩) ?_
 simp[go_sem,bJ.bR]
 refine zJ z ⟨om,⟨hz,n,om,hinv⟩, ?_⟩
 exact cc 3 (by simp[go_sem,rB,zB,bJ.bR]) rfl (by simp[zB,bT,cS,cN,bJ.bR]) dC (zD sg rfl)
theorem Kw {x:bJ} (h:fB x): ∀e∈ [x],fB e:=λe he=>by
 simp only[Ae,Bg,aih]at he
 subst he
 exact h
theorem wo2 {x y:bJ} (h:fB x) (h2:fB y): ∀e∈ [x,y],fB e:=λe he=>by
 simp only[Ae,Bg,aih]at he
 rcases he with rfl|rfl
 .exact h
 .exact h2
theorem wr1 (L:List bQ) (hL:eR L) (rec:Nat->RS->PR) (s:RS) (hs:du L s) (h2:s.bZ<=200) (ak:s.bZ+1<=200->PW L rec (s.bZ+1)):
  bN prog 317 [.ptr 0 0] [rB L s] (RR L (jV L (ky L rec 2) s)):=by
 have hr:=DR L hL s hs om
 have aa:=u7 hs h2
 have ad:=qR (L:=L) s
 have al:=uZ (L:=L) (s:=s)
 have ho:=hs.bZ
 have hM:jV L (ky L rec 2) s=if(yT L s).err=0 then((nB L (rec 2) (rec 3) (yT L s)).1,dF (nB L (rec 2) (rec 3) (yT L s)).2)else(de,dF (yT L s)):=rfl
 generalize jV L (ky L rec 2) s=M at hM⊢
 generalize yT L s=s1 at hr aa ad al hM
 have eo:=Ea (o:=s1.bZ) om om
 refine iW 1 func317 ntmps317 results317 λc hc hb=>zM ?_
 by_cases q1:s1.err=0
 rotate_left
 .have ah:(s1.err==0)=false:=sU q1
  rw[ai1 q1]at hM
  rw[ah]at hr
  simp[go_sem]
  refine pR hr ?_
  simp[go_sem,rB,eo]
  exact AM (e:=de) (s:=dF s1) hM
 have ah:(s1.err==0)=true:=sU q1
 rw[ai2 q1]at hM
 rw[ah]at hr
 have hP:=ak (al q1).2
 have af:=nz L hL s1 aa
 have ab:=DP L hL s1 aa ka
 unfold nB at hM
 unfold mF at ab
 by_cases q:dq L ka s1=true
 .rw[ai2 q]at hM
  rw[ai2 q,q]at ab
  have an:=aa.next hL q
  have hy:=hP.ok 2 (zR s1) an ad
  have ae:=hP.not (zR s1) an ad
  generalize rec 2 (zR s1)=y at hy ae hM
  have ai:=mG L y.2 (cD L s1).place ka [y.1] sm (Kw hy.wide) (λhe=>by
   have h1:=(hy.err he).2
   simp only[wL]
   omega)
  have ao:(ij (cD L s1).place ka [y.1] y.2).2.bZ=s1.bZ:=by
   show(nA _ _ _ y.2).bZ=_
   rw[Kt,hy.bZ];rfl
  generalize ij (cD L s1).place ka [y.1] y.2=z at ai hM ao
  have aj:IntKind.i64.wrap (z.2.bZ - 1)=z.2.bZ - 1:=by rw[ao];exact eo
  simp only[Ah,Bp,bJ.bR]at ai
  simp[go_sem]
  refine pR hr ?_
  simp[go_sem]
  refine pR af ?_
  simp[go_sem]
  refine pR ab ?_
  simp[go_sem]
  refine jW ae cB fK ?_
  simp[go_sem,bJ.bR]
  refine jW ai cB (wM ⟨zC rfl,zC rfl,zK,tV⟩) ?_
  simp[go_sem,rB,bJ.bR,aj]
  exact wK (s:=dF z.2) hM
 .have q:dq L ka s1=false:=sU q
  rw[ai1 (by rw[q];decide)]at hM
  rw[ai1 (by rw[q];decide),q]at ab
  have hy:=hP.ok 3 s1 aa ad
  have ae:=hP.cmp s1 aa ad
  generalize rec 3 s1=z at hy ae hM
  have aj:IntKind.i64.wrap (z.2.bZ - 1)=z.2.bZ - 1:=by rw[hy.bZ];exact eo
  simp[go_sem]
  refine pR hr ?_
  simp[go_sem]
  refine pR af ?_
  simp[go_sem]
  refine pR ab ?_
  simp[go_sem]
  refine jW ae cB fK ?_
  simp[go_sem,rB,bJ.bR,aj]
  exact wK (s:=dF z.2) hM
theorem xB6 (L:List bQ) (s:RS) (w:aiA) (ws:List aiA) (h:dq L w s):ec L s (w::ws)=w:=by unfold ec;rw[ai2 h]
theorem xr4 (L:List bQ) (s:RS) (w:aiA) (ws:List aiA) (h:dq L w s=false):ec L s (w::ws)=ec L s ws:=by unfold ec;rw[ai1 (by rw[h];decide)];cases ws<;>rfl
theorem xy6: ∀w∈fX,w≠ []:=dC
theorem wp9 (L:List bQ) (hL:eR L) (rec:Nat->RS->PR) (s:RS) (hs:du L s) (h2:s.bZ<=200) (ay:s.bZ+1<=200->PW L rec (s.bZ+1)):
  bN prog 329 [.ptr 0 0] [rB L s] (RR L (jV L (ky L rec 3) s)):=by
 have hr:=DR L hL s hs om
 have ai:=u7 hs h2
 have aj:=qR (L:=L) s
 have az:=uZ (L:=L) (s:=s)
 have ho:=hs.bZ
 have hM:jV L (ky L rec 3) s=if(yT L s).err=0 then((nC L (rec 4) (rec 4 (yT L s))).1,dF (nC L (rec 4) (rec 4 (yT L s))).2)else(de,dF (yT L s)):=rfl
 generalize jV L (ky L rec 3) s=M at hM⊢
 generalize yT L s=s1 at hr ai aj az hM
 have eo:=Ea (o:=s1.bZ) om om
 refine iV 1 func329 ntmps329 results329 λc hc hb=> ?_
 by_cases q1:s1.err=0
 rotate_left
 .have aw:(s1.err==0)=false:=sU q1
  rw[ai1 q1]at hM
  rw[aw]at hr
  refine zA ?_
  simp[go_sem]
  refine pR hr ?_
  simp[go_sem,rB,eo]
  exact AM (e:=de) (s:=dF s1) hM
 have aw:(s1.err==0)=true:=sU q1
 rw[ai2 q1]at hM
 rw[aw]at hr
 have hP:=ay (az q1).2
 have hx:=hP.ok 4 s1 ai aj
 have au:=hP.sum s1 ai aj
 generalize rec 4 s1=x at hx au hM
 have ak:=nz L hL x.2 hx.cA
 have aa:=DP L hL x.2 hx.cA Kq
 have af:=hx.bZ
 unfold nC at hM
 unfold mF at aa
 by_cases q:dq L Kq x.2=true
 .rw[ai2 q]at hM
  rw[ai2 q,q]at aa
  have ah:=hx.cA.next hL q
  have ab:=DP L hL (zR x.2) ah ka
  unfold mF at ab
  by_cases q2:dq L ka (zR x.2)=true
  .rw[ai2 q2]at hM
   rw[ai2 q2,q2]at ab
   have a8:=ah.next hL q2
   have al:=lC L hL _ a8 oZ
   have an:=DY (L:=L) oZ (zR (zR x.2))
   have ao:=xa (L:=L) (w:=oZ) (s:=zR (zR x.2))
   generalize yH L oZ (zR (zR x.2))=u at al an ao hM
   have ax:u.bZ=s1.bZ:=by rw[an];exact af
   have ae:IntKind.i64.wrap (u.bZ - 1)=u.bZ - 1:=by rw[ax];exact eo
   have ad:=mG L (dF u) (cD L x.2).place Ks [x.1] sm (Kw hx.wide) (λhe=>by
    have h1:=(hx.err (ao he).1).2
    simp only[wL]
    omega)
   have aq:M=ij (cD L x.2).place Ks [x.1] (dF u):=by rw[hM];unfold ij;rw[R4]
   clear hM
   generalize ij (cD L x.2).place Ks [x.1] (dF u)=z at ad aq
   simp only[Ah,Bp,bJ.bR]at ad
   refine zA ?_
   simp[go_sem]
   refine pR hr ?_
   simp[go_sem]
   refine jW au cB fK ?_
   simp[go_sem,bJ.bR]
   refine pR ak ?_
   simp[go_sem]
   refine pR aa ?_
   simp[go_sem]
   refine pR ab ?_
   simp[go_sem]
   refine pR al ?_
   simp[go_sem,rB,ae]
   refine jW (s:=dF u) ad cB (wM ⟨zC rfl,zC rfl,zK,tV⟩) ?_
   simp[go_sem,bJ.bR]
   exact wK aq
  .have q2:dq L ka (zR x.2)=false:=sU q2
   rw[ai1 (by rw[q2];decide)]at hM
   rw[ai1 (by rw[q2];decide),q2]at ab
   have al:=lC L hL _ ah oZ
   have an:=DY (L:=L) oZ (zR x.2)
   have ao:=xa (L:=L) (w:=oZ) (s:=zR x.2)
   generalize yH L oZ (zR x.2)=u at al an ao hM
   have ax:u.bZ=s1.bZ:=by rw[an];exact af
   have ae:IntKind.i64.wrap (u.bZ - 1)=u.bZ - 1:=by rw[ax];exact eo
   have ad:=mG L (dF u) (cD L x.2).place Kr [x.1] sm (Kw hx.wide) (λhe=>by
    have h1:=(hx.err (ao he).1).2
    simp only[wL]
    omega)
   have aq:M=ij (cD L x.2).place Kr [x.1] (dF u):=by rw[hM];unfold ij;rw[R4]
   clear hM
   generalize ij (cD L x.2).place Kr [x.1] (dF u)=z at ad aq
   simp only[Ah,Bp,bJ.bR]at ad
   refine zA ?_
   simp[go_sem]
   refine pR hr ?_
   simp[go_sem]
   refine jW au cB fK ?_
   simp[go_sem,bJ.bR]
   refine pR ak ?_
   simp[go_sem]
   refine pR aa ?_
   simp[go_sem]
   refine pR ab ?_
   simp[go_sem]
   refine pR al ?_
   simp[go_sem,rB,ae]
   refine jW (s:=dF u) ad cB (wM ⟨zC rfl,zC rfl,zK,tV⟩) ?_
   simp[go_sem,bJ.bR]
   exact wK aq
 have q:dq L Kq x.2=false:=sU q
 rw[ai1 (by rw[q];decide)]at hM
 rw[ai1 (by rw[q];decide),q]at aa
 refine zA ?_
 simp[go_sem]
 refine pR hr ?_
 simp[go_sem]
 refine jW au cB fK ?_
 simp[go_sem,bJ.bR]
 refine pR ak ?_
 simp[go_sem]
 refine pR aa ?_
 simp[go_sem]
 refine zI (S:=Nat) [0,2,3,4,5,7] (λi=> [.ptr 0 0,.ptr 1 0,.ptr 2 0,.int .i64 (cD L x.2).place,.sl .ro (fX.map λw=> [V.str w]),.int .i64 (i:Int)]) (λ_=> [rB L x.2,zB,.box x.1.row]) (λi=>6 - i) (λi=>i<=6/\ec L x.2 (fX.drop i)=ec L x.2 fX) hc hb 0 ⟨A3 _,rfl⟩ ?_ ?_
 .exact cc 3 (by simp[go_sem,zB,bJ.bR]) rfl (by simp[rB,zB,bT,cS,cN,bJ.bR]) dC ⟨xQ (by rfl),xQ (by rfl),xQ (by rfl),zC rfl,zK,zC rfl,tV⟩
 rintro i ⟨hi,hinv⟩
 by_cases qi:i<6
 rotate_left
 .obtain rfl:i=6:=om
  have ha:ec L x.2 fX= []:=by rw[<-hinv];rfl
  rw[ai2 ha]at hM
  have ae:IntKind.i64.wrap (x.2.bZ - 1)=x.2.bZ - 1:=by rw[af];exact eo
  refine zA ?_
  simp[go_sem,fX,rB,ae,bJ.bR]
  exact wK (s:=dF x.2) hM
 have ar:i<fX.length:=qi
 obtain⟨w,hw⟩:=eX (fX[i])
 have aA:w∈fX:=hw▸A8 ar
 have aB:=xy6 w aA
 rw[A5 ar,hw]at hinv
 have aa:=DP L hL x.2 hx.cA w
 unfold mF at aa
 have a1:decide ((i:Int)<6)=true:=ai4 om
 have ei:=zU qi dC
 have av:(fX.length:Int)=6:=rfl
 by_cases qw:dq L w x.2=true
 rotate_left
 .have qw:dq L w x.2=false:=sU qw
  rw[xr4 L x.2 w _ qw]at hinv
  rw[ai1 (by rw[qw];decide),qw]at aa
  refine zA ?_
  simp[go_sem,av,a1,ar,hw]
  refine zH om ?_
  simp[go_sem]
  refine pR aa ?_
  simp[go_sem,ei]
  refine zJ (i+1) ⟨om,⟨om,hinv⟩, ?_⟩
  exact cc 3 (by simp[go_sem,rB,zB,bJ.bR]) rfl (by simp[rB,zB,bT,cS,cN,bJ.bR]) dC (zD sg rfl)
 rw[xB6 L x.2 w _ qw]at hinv
 rw[ai1 (by rw[<-hinv];exact aB),<-hinv]at hM
 rw[ai2 qw,qw]at aa
 have ah:=hx.cA.next hL qw
 have hy:=hP.ok 4 (zR x.2) ah (by show x.2.bZ=_;rw[af,aj])
 have a6:=hP.sum (zR x.2) ah (by show x.2.bZ=_;rw[af,aj])
 generalize rec 4 (zR x.2)=y at hy a6 hM
 have ad:=mG L y.2 (cD L x.2).place w [x.1,y.1] sm (wo2 hx.wide hy.wide) (λhe=>by
   have h1:=(hy.err he).2
   have h2:=(hx.err (hy.err he).1).2
   simp only[wL]
   omega)
 have a7:(ij (cD L x.2).place w [x.1,y.1] y.2).2.bZ=s1.bZ:=by
  show(nA _ _ _ y.2).bZ=_
  rw[Kt,hy.bZ];exact af
 generalize ij (cD L x.2).place w [x.1,y.1] y.2=z at ad hM a7
 have ae:IntKind.i64.wrap (z.2.bZ - 1)=z.2.bZ - 1:=by rw[a7];exact eo
 simp only[Ah,Bp,bJ.bR]at ad
 refine zA ?_
 simp[go_sem,av,a1,ar,hw]
 refine zH om ?_
 simp[go_sem]
 refine pR aa ?_
 simp[go_sem]
 refine wJ [(8,3),(10,3)] 1 3 sm kR kR ?_
 simp[go_sem,ar,hw]
 refine rZ a6 cB fK ?_
 simp[go_sem,bJ.bR]
 refine rZ ad cB (wM ⟨zC rfl,zC rfl,zK,tV⟩) ?_
 simp[go_sem,rB,bJ.bR,ae]
 exact wK (s:=dF z.2) hM
theorem HK (v:bK):Pure prog 339 [.agg v.row] (.agg (j9 v).row):=by
 refine iW 0 func339 ntmps339 results339 λc hc hb=>zM ?_
 simp[go_sem]
 exact zW (r:= .agg [.int .i64 1,.str [],.int .i64 v.kind,.int .i64 v.n,.str v.s,.sl .ro []]) (wN ⟨zF rfl,zF rfl,zF rfl,zF rfl,zF rfl,zX,tV⟩) ⟨rfl,rfl⟩
theorem xS (L:List bQ) (hL:eR L) (s:RS) (hs:du L s) (w:aiA) (h:dq L w s):bN prog 67 [.ptr 0 0,.str w] [rB L s] (λr I=>r= .bool true/\I= [rB L (zR s)]):=by
 have:=DP L hL s hs w
 unfold mF at this
 rw[ai2 h,h]at this
 exact this
theorem wT (L:List bQ) (hL:eR L) (s:RS) (hs:du L s) (w:aiA) (h:dq L w s=false):bN prog 67 [.ptr 0 0,.str w] [rB L s] (λr I=>r= .bool false/\I= [rB L s]):=by
 have:=DP L hL s hs w
 unfold mF at this
 rw[ai1 (by rw[h];decide),h]at this
 exact this
theorem wi4 (L:List bQ) (hL:eR L) (rec:Nat->RS->PR) (s:RS) (hs:du L s) (hP:PW L rec s.bZ)
  (hex: ∀s',du L s'->s'.bZ=s.bZ->bN prog 186 [.ptr 0 0] [rB L s'] (RR L (rec 0 s'))):
  bN prog 338 [.ptr 0 0] [rB L s] (RR L (tG L (rec 6) (rec 0) s)):=by
 generalize hM:tG L (rec 6) (rec 0) s=M
 unfold tG at hM
 have ab:=nz L hL s hs
 have ao:=hs.at_
 have hl:=hL.len
 have ei:IntKind.i64.wrap ((s.at_:Int)+1)=((s.at_+1:Nat):Int):=by rw[bX om om];omega
 have ah:=DQ L hL s hs
 refine iW 1 func338 ntmps338 results338 λc hc hb=>zM ?_
 by_cases q1:dq L [45] s=true
 .rw[ai2 q1]at hM
  have al:=xS L hL s hs _ q1
  have ad:=hs.next hL q1
  have hy:=hP.ok 6 (zR s) ad rfl
  have ae:=hP.unary (zR s) ad rfl
  generalize rec 6 (zR s)=y at hy ae hM
  have ai:=mG L y.2 (cD L s).place [78,69,71] [y.1] sm (Kw hy.wide) (λhe=>by
   have h1:=(hy.err he).2
   simp only[wL]
   omega)
  generalize ij (cD L s).place [78,69,71] [y.1] y.2=z at ai hM
  simp only[Ah,Bp,bJ.bR]at ai
  simp[go_sem]
  refine pR ab ?_
  simp[go_sem]
  refine pR al ?_
  simp[go_sem]
  refine wJ [(4,3),(6,3)] 1 3 sm kR kR ?_
  simp[go_sem]
  refine rZ ae cB fK ?_
  simp[go_sem,bJ.bR]
  refine rZ ai cB (wM ⟨zC rfl,zC rfl,zK,tV⟩) ?_
  simp[go_sem,bJ.bR]
  exact wK hM.symm
 have q1:dq L [45] s=false:=sU q1
 rw[ai1 (by rw[q1];decide)]at hM
 have af:=wT L hL s hs _ q1
 by_cases q2:dq L [40] s=true
 .rw[ai2 q2]at hM
  have aa:=xS L hL s hs _ q2
  have ad:=hs.next hL q2
  have hy:=hP.ok 0 (zR s) ad rfl
  have ae:=hex (zR s) ad rfl
  generalize rec 0 (zR s)=y at hy ae hM
  have an:=lC L hL y.2 hy.cA [41]
  generalize yH L [41] y.2=u at an hM
  simp[go_sem]
  refine pR ab ?_
  simp[go_sem]
  refine pR af ?_
  simp[go_sem]
  refine pR aa ?_
  simp[go_sem]
  refine jW ae cB fK ?_
  simp[go_sem,bJ.bR]
  refine pR an ?_
  simp[go_sem]
  exact wK hM.symm
 have q2:dq L [40] s=false:=sU q2
 rw[ai1 (by rw[q2];decide)]at hM
 have aa:=wT L hL s hs _ q2
 simp[go_sem]
 refine pR ab ?_
 simp[go_sem]
 refine pR af ?_
 simp[go_sem]
 refine pR aa ?_
 simp[go_sem]
 by_cases q3:dq L [84,82,85,69] s=true
 .rw[ai2 q3]at hM
  have hv:=HK ⟨1,1,[]⟩
  simp only[bJ.bR,bK.row]at hv
  refine pR (xS L hL s hs _ q3) ?_
  simp[go_sem]
  refine pC hv ?_
  simp[go_sem]
  exact wK (e:=j9 ⟨1,1,[]⟩) (s:=zR s) hM.symm
 have q3:dq L [84,82,85,69] s=false:=sU q3
 rw[ai1 (by rw[q3];decide)]at hM
 refine pR (wT L hL s hs _ q3) ?_
 simp[go_sem]
 by_cases q4:dq L [70,65,76,83,69] s=true
 .rw[ai2 q4]at hM
  have hv:=HK ⟨1,0,[]⟩
  simp only[bJ.bR,bK.row]at hv
  refine pR (xS L hL s hs _ q4) ?_
  simp[go_sem]
  refine pC hv ?_
  simp[go_sem]
  exact wK (e:=j9 ⟨1,0,[]⟩) (s:=zR s) hM.symm
 have q4:dq L [70,65,76,83,69] s=false:=sU q4
 rw[ai1 (by rw[q4];decide)]at hM
 refine pR (wT L hL s hs _ q4) ?_
 simp[go_sem]
 by_cases q5:dq L oZ s=true
 .rw[ai2 q5]at hM
  have hv:=HK ⟨0,0,[]⟩
  simp only[bJ.bR,bK.row]at hv
  refine pR (xS L hL s hs _ q5) ?_
  simp[go_sem]
  refine pC hv ?_
  simp[go_sem]
  exact wK (e:=j9 ⟨0,0,[]⟩) (s:=zR s) hM.symm
 have q5:dq L oZ s=false:=sU q5
 rw[ai1 (by rw[q5];decide)]at hM
 refine pR (wT L hL s hs _ q5) ?_
 simp[go_sem]
 obtain⟨t,ht⟩:=eX (cD L s)
 rw[ht]at hM
 rw[ht]
 by_cases q6:t.kind=2
 .rw[ai2 q6]at hM
  have hv:=HK ⟨2,t.n,[]⟩
  simp only[bJ.bR,bK.row]at hv
  have aj:(t.kind==2)=true:=sU q6
  simp[go_sem,aj,rB,ei]
  refine pC hv ?_
  simp[go_sem]
  exact wK (e:=j9 ⟨2,t.n,[]⟩) (s:=zR s) hM.symm
 rw[ai1 q6]at hM
 have aj:(t.kind==2)=false:=sU q6
 simp[go_sem,aj]
 by_cases q7:t.kind=3
 .rw[ai2 q7]at hM
  have hv:=HK ⟨3,0,t.s⟩
  simp only[bJ.bR,bK.row]at hv
  have ak:(t.kind==3)=true:=sU q7
  simp[go_sem,ak,rB,ei]
  refine pC hv ?_
  simp[go_sem]
  exact wK (e:=j9 ⟨3,0,t.s⟩) (s:=zR s) hM.symm
 rw[ai1 q7]at hM
 have ak:(t.kind==3)=false:=sU q7
 simp[go_sem,ak]
 refine pR ah ?_
 simp[go_sem]
 exact AM (e:=DT (xC L s).1) (s:=(xC L s).2) hM.symm
theorem wc6 (L:List bQ) (hL:eR L) (rec:Nat->RS->PR) (s:RS) (hs:du L s) (h2:s.bZ<=200) (af:s.bZ+1<=200->PW L rec (s.bZ+1))
  (hex:s.bZ+1<=200-> ∀s',du L s'->s'.bZ=s.bZ+1->bN prog 186 [.ptr 0 0] [rB L s'] (RR L (rec 0 s'))):
  bN prog 337 [.ptr 0 0] [rB L s] (RR L (jV L (ky L rec 6) s)):=by
 have hr:=DR L hL s hs om
 have aa:=u7 hs h2
 have ad:=qR (L:=L) s
 have ah:=uZ (L:=L) (s:=s)
 have ho:=hs.bZ
 have hM:jV L (ky L rec 6) s=if(yT L s).err=0 then((tG L (rec 6) (rec 0) (yT L s)).1,dF (tG L (rec 6) (rec 0) (yT L s)).2)else(de,dF (yT L s)):=rfl
 generalize jV L (ky L rec 6) s=M at hM⊢
 generalize yT L s=s1 at hr aa ad ah hM
 have eo:=Ea (o:=s1.bZ) om om
 refine iW 1 func337 ntmps337 results337 λc hc hb=>zM ?_
 by_cases q1:s1.err=0
 rotate_left
 .have ae:(s1.err==0)=false:=sU q1
  rw[ai1 q1]at hM
  rw[ae]at hr
  simp[go_sem]
  refine pR hr ?_
  simp[go_sem,rB,eo]
  exact AM (e:=de) (s:=dF s1) hM
 have ae:(s1.err==0)=true:=sU q1
 rw[ai2 q1]at hM
 rw[ae]at hr
 have ab:=(ah q1).2
 have hP:PW L rec s1.bZ:=by rw[ad];exact af ab
 have db:=Sb hL (hP.ok 6) (hP.ok 0) s1 aa rfl
 have ai:=wi4 L hL rec s1 aa hP (λs' h1 h2=>hex ab s' h1 (by rw[h2,ad]))
 generalize tG L (rec 6) (rec 0) s1=z at db ai hM
 have aj:IntKind.i64.wrap (z.2.bZ - 1)=z.2.bZ - 1:=by rw[db.bZ];exact eo
 simp[go_sem]
 refine pR hr ?_
 simp[go_sem]
 refine jW ai cB fK ?_
 simp[go_sem,rB,bJ.bR,aj]
 exact wK (s:=dF z.2) hM
theorem Sg (L:List bQ) (s:RS) (x:PR) (aa:bN prog 246 [.ptr 0 0,.int .i64 0] [rB L s] (RR L x)):bN prog 186 [.ptr 0 0] [rB L s] (RR L x):=by
 refine iW 1 func186 ntmps186 results186 λc hc hb=>zM ?_
 simp[go_sem]
 refine jW aa cB (wM ⟨zC rfl,tV⟩) ?_
 simp[go_sem,bJ.bR]
 exact wK rfl
theorem Sh (L:List bQ) (hL:eR L): ∀(f:Nat) (o:Int),o<=200->201<=(f:Int)+o->PW L (pF L f) o
 |0,o,h,hf=>by omega
 |f+1,o,h,hf=>by
  have ih: ∀s:RS,s.bZ=o->s.bZ+1<=200->PW L (pF L f) (s.bZ+1):=λs hs h1=>Sh L hL f (s.bZ+1) h1 (by push_cast at hf;omega)
  have aa: ∀s:RS,s.bZ=o->s.bZ+1<=200-> ∀s',du L s'->s'.bZ=s.bZ+1->bN prog 186 [.ptr 0 0] [rB L s'] (RR L (pF L f 0 s')):=λs hs h1 s' h2 h3=>Sg L s' _ ((ih s hs h1).chain 0 (A3 _) s' h2 h3)
  refine⟨λw s hs ho=>Kv hL (f+1) w s hs om (by push_cast at hf⊢;omega),λk hk s hs ho=> ?_,λs hs ho=> ?_,λs hs ho=> ?_,λs hs ho=> ?_,λs hs ho=> ?_,λs hs ho=> ?_⟩
  .have hk:k=0\/k=1:=om
   rcases hk with rfl|rfl
   .exact xC9 L hL (pF L f) s hs om (ih s ho)
   .exact xD0 L hL (pF L f) s hs om (ih s ho)
  .exact wr1 L hL (pF L f) s hs om (ih s ho)
  .exact wp9 L hL (pF L f) s hs om (ih s ho)
  .exact wr9 L hL (pF L f) s hs om (ih s ho)
  .exact wm4 L hL (pF L f) s hs om (ih s ho)
  .exact wc6 L hL (pF L f) s hs om (ih s ho) (aa s ho)
def iX (L:List bQ) (s:RS):PR:=pF L 201 0 s
theorem NN {L:List bQ} (hL:eR L) {s:RS} (hs:du L s) (ho:s.bZ=0):PI L s (iX L s):=Kv hL 201 0 s hs om om
theorem tH (L:List bQ) (hL:eR L) (s:RS) (hs:du L s) (ho:s.bZ=0):bN prog 186 [.ptr 0 0] [rB L s] (RR L (iX L s)):=
 Sg L s _ ((Sh L hL 201 0 dC dC).chain 0 (A3 _) s hs ho)
mutual
def mH:bJ->Nat
 | .mk _ _ _ args=>mW args+1
def mW:List bJ->Nat
 | []=>0
 |e::l=>mH e+mW l
end
variable {e:bJ}{w:aiA}{o:Int}{n:Int}
theorem FY (e:bJ):mH e=mW e.args+1:=by cases e;rfl
theorem Si: ∀(l:List bJ) (e:bJ),e∈l->mH e<=mW l
 | [],_,h=>by grind
 |x::l,e,h=>by
  rw[mW]
  rcases Ae.1 h with rfl|h
  .omega
  .have:=Si l e h;omega
inductive Good:bJ->Prop
 |mk (e:bJ) (hk:cZ e.kind) (hs:e.s.length<=1048576) (hv:e.v.ok) (hn:e.v.s.length<=1048576) (ha: ∀x∈e.args,Good x):Good e
theorem Good.str (h:Good e):e.s.length<=1048576:=by cases h;omega
theorem Good.v (h:Good e):e.v.ok:=by cases h;omega
theorem Good.sub (h:Good e): ∀x∈e.args,Good x:=by cases h;omega
theorem Kx:(⟨0,0,[]⟩:bK).ok:=⟨dC,dC,dC⟩
theorem xX1 (h:0<=n/\n<=9223372036854775807):(⟨2,n,[]⟩:bK).ok:=⟨sm,by grind,sm⟩
theorem wc4 {s:aiA} (h:s.length<=1048576):(⟨3,0,s⟩:bK).ok:=⟨sm,sm,by grind[maxLen]⟩
theorem xW5 {a:List bJ} (h:w.length<=1048576) (ha: ∀x∈a,Good x):Good (qP w a):= .mk _ (by show cZ 3;decide) h Kx (A3 _) ha
theorem HL {v:bK} (h:v.ok) (h2:v.s.length<=1048576):Good (j9 v):= .mk _ (by show cZ 1;decide) (A3 _) h h2 (λx hx=>by cases hx)
theorem xG8 (h:w.length<=1048576):Good (DT w):= .mk _ (by show cZ 2;decide) h Kx (A3 _) (λx hx=>by cases hx)
theorem Sj:Good de:= .mk _ dC dC Kx dC (λx hx=>by cases hx)
theorem Ky {x:bJ} (h:Good x): ∀e∈ [x],Good e:=(by grind)
theorem Sk {x y:bJ} (h:Good x) (h2:Good y): ∀e∈ [x,y],Good e:=(by grind)
structure gO (L:List bQ):Prop where
 w7: ∀t∈L,t.s.length<=1048576
 num: ∀t∈L,0<=t.n/\t.n<=9223372036854775807
variable {L:List bQ}
theorem FZ {s:RS} (hs:du L s):cD L s∈L:=by
 unfold cD
 rw[Al,A0 hs.at_]
 simp
theorem Sl (hG:gO L) {s:RS} (hs:du L s) (h:dq L w s):w.length<=1048576:=by
 have:=hG.w7 _ (FZ hs)
 simp_all[dq]
theorem xb (hG:gO L) {s:RS} (hs:du L s):(xC L s).1.length<=1048576:=by
 unfold xC
 split
 .exact hG.w7 _ (FZ hs)
 simp
structure PJ (s:RS) (x:PR):Prop where
 dV:Good x.1
 size:x.2.err=0->mH x.1+s.at_<=x.2.at_
abbrev PK (L:List bQ) (s:RS) (x:PR):Prop:=PI L s x/\PJ s x
theorem wa9 (w:aiA) (a:List bJ):mH (qP w a)=mW a+1:=FY _
theorem Kz (x:bJ):mW [x]=mH x:=by rfl
theorem Sn (x y:bJ):mW [x,y]=mH x+mH y:=by rfl
theorem xy7 (h:e.args= []):mH e=1:=by rw[FY,h];rfl
theorem F0 {s0 s:RS} (p:Int) {a:List bJ} (h1:w.length<=1048576) (h2: ∀x∈a,Good x) (h3:s.err=0->mW a+1+s0.at_<=s.at_):PJ s0 (ij p w a s):=
 ⟨xW5 h1 h2,λhe=>by
  have h:=NL (p:=p) (w:=w) (a:=a) (s:=s) he
  show mH (qP w a)+s0.at_<=(nA p w a s).at_
  grind[DV,wa9]⟩
theorem HM (hL:eR L) (hG:gO L) {o:Int} {sub:RS->PR} (ab: ∀s,du L s->s.bZ=o->PK L s (sub s)) (ws:List aiA) {s0:RS}: ∀(n:Nat) (x:PR),PK L s0 x->s0.bZ=o->PJ s0 (eT L ws sub n x)
 |0,x,h,_=>h.2
 |n+1,x,h,ho=>by
  have aa:=FX hL (λs h1 h2=>(ab s h1 h2).1) ws 1 x h.1 ho
  unfold eT
  unfold eT at aa
  split
  .grind
  rename_i ad
  rw[ai1 ad]at aa
  have hi:=DW ad
  have hx:=h.1.bZ
  have hy:=ab (zR x.2) (h.1.cA.next hL hi) (by show x.2.bZ=o;omega)
  have hl:=Sl hG h.1.cA hi
  have aa:PI L s0 (ij (cD L x.2).place (ec L x.2 ws) [x.1,(sub (zR x.2)).1] (sub (zR x.2)).2):=aa
  refine HM hL hG ab ws n _ ⟨aa,F0 _ hl (Sk h.2.dV hy.2.dV) (λhe=> ?_)⟩ ho
  have h1:=hy.2.size he
  have h2:=h.2.size (hy.1.err he).1
  grind[ov,Sn]
theorem wl2 (hL:eR L) (_hG:gO L) {rn rc:RS->PR} (h1: ∀s,du L s->s.bZ=o->PK L s (rn s)) (h2: ∀s,du L s->s.bZ=o->PK L s (rc s)) (s:RS) (hs:du L s) (ho:s.bZ=o):PJ s (nB L rn rc s):=by
 unfold nB
 split
 .rename_i hi
  have hy:=h1 (zR s) (hs.next hL hi) ho
  refine F0 _ dC (Ky hy.2.dV) (λhe=> ?_)
  have h:=hy.2.size he
  grind[ov,Kz]
 grind
theorem wi8 (hL:eR L) (hG:gO L) {sub:RS->PR} (aa: ∀s,du L s->s.bZ=o->PK L s (sub s)) (s:RS) (ho:s.bZ=o) (x:PR) (h:PK L s x):PJ s (nC L sub x):=by
 have hx:=h.1.bZ
 unfold nC
 split
 .rename_i hi
  split
  .rename_i ad
   refine F0 _ dC (Ky h.2.dV) (λhe=> ?_)
   have h1:=h.2.size (xa he).1
   grind[DX,ov,Kz]
  .refine F0 _ dC (Ky h.2.dV) (λhe=> ?_)
   have h1:=h.2.size (xa he).1
   grind[DX,ov,Kz]
 .split
  .grind
  rename_i ab
  have hi:=DW ab
  have hy:=aa (zR x.2) (h.1.cA.next hL hi) (by show x.2.bZ=o;omega)
  have hl:=Sl hG h.1.cA hi
  refine F0 _ hl (Sk h.2.dV hy.2.dV) (λhe=> ?_)
  have h1:=hy.2.size he
  have h2:=h.2.size (hy.1.err he).1
  grind[ov,Sn]
theorem F1 {s s2:RS} (ha:e.args= []) (h:Good e) (h2:s2.err=0->s2.at_=s.at_+1):PJ s (e,s2):=⟨h,(by grind[xy7])⟩
theorem xU4 (hL:eR L) (hG:gO L) {un ex:RS->PR} (h1: ∀s,du L s->s.bZ=o->PK L s (un s)) (h2: ∀s,du L s->s.bZ=o->PK L s (ex s)) (s:RS) (hs:du L s) (ho:s.bZ=o):PJ s (tG L un ex s):=by
 have hm:=FZ hs
 unfold tG
 split
 .rename_i hi
  have hy:=h1 (zR s) (hs.next hL hi) ho
  refine F0 _ dC (Ky hy.2.dV) (λhe=> ?_)
  have h:=hy.2.size he
  grind[ov,Kz]
 split
 .rename_i hi
  have hy:=h2 (zR s) (hs.next hL hi) ho
  refine⟨hy.2.dV,λhe=> ?_⟩
  have h:=hy.2.size (xa he).1
  grind[DX,ov]
 split
 .exact F1 rfl (HL ⟨dC,dC,dC⟩ sm) (λ_=>rfl)
 split
 .exact F1 rfl (HL ⟨dC,dC,dC⟩ sm) (λ_=>rfl)
 split
 .exact F1 rfl (by simp[HL,Kx]) (λ_=>rfl)
 split
 .exact F1 rfl (HL (xX1 (hG.num _ hm)) sm) (λ_=>rfl)
 split
 .exact F1 rfl (HL (wc4 (hG.w7 _ hm)) (hG.w7 _ hm)) (λ_=>rfl)
 .refine F1 rfl (xG8 (xb hG hs)) (λhe=> ?_)
  have hb:=(NM he).2
  unfold xC
  rw[ai2 hb]
  rfl
theorem xU6 (hL:eR L) (hG:gO L) {rec:Nat->RS->PR} (h: ∀w s,du L s->s.bZ=o->PK L s (rec w s)): ∀(w:Nat) (s:RS),du L s->s.bZ=o->PJ s (ky L rec w s)
 |0,s,hs,ho=>HM hL hG (h 1) _ _ _ (by grind) ho
 |1,s,hs,ho=>HM hL hG (h 2) _ _ _ (by grind) ho
 |2,s,hs,ho=>wl2 hL hG (h 2) (h 3) s hs ho
 |3,s,hs,ho=>wi8 hL hG (h 4) s ho _ (by grind)
 |4,s,hs,ho=>HM hL hG (h 5) _ _ _ (by grind) ho
 |5,s,hs,ho=>HM hL hG (h 6) _ _ _ (by grind) ho
 |_w+6,s,hs,ho=>xU4 hL hG (h 6) (h 0) s hs ho
theorem wa4 {k:RS->PR} (s:RS) (hk:(yT L s).err=0->PJ (yT L s) (k (yT L s))):PJ s (jV L k s):=by
 unfold jV
 split
 .rename_i he
  have hy:=hk he
  refine⟨hy.dV,λh=> ?_⟩
  have h2:=hy.size h
  rw[Ku]at h2
  exact h2
 .rename_i he
  exact⟨Sj,λh=>absurd h he⟩
theorem HN (hL:eR L) (hG:gO L): ∀(f:Nat) (w:Nat) (s:RS),du L s->s.bZ<=200->201<=(f:Int)+s.bZ->PJ s (pF L f w s)
 |0,w,s,hs,h2,hf=>by omega
 |f+1,w,s,hs,h2,hf=>by
  unfold pF
  refine wa4 s (λhe=> ?_)
  have h3:=(uZ he).2
  exact xU6 hL hG (o:=s.bZ+1) (λw t ht ho=>⟨Kv hL f w t ht om (by push_cast at hf;omega),HN hL hG f w t ht om (by push_cast at hf;omega)⟩) w _ (u7 hs h2) (qR s)
theorem NO {L:List bQ} (hL:eR L) (hG:gO L) {s:RS} (hs:du L s) (ho:s.bZ=0):PJ s (iX L s):=HN hL hG 201 0 s hs om om
structure UI (L:List bQ) (s s':RS):Prop where
 cA:du L s'
 bZ:s'.bZ=s.bZ
 up:s.at_<=s'.at_
 err:s'.err=0->s.err=0
variable {L:List bQ}
theorem UI.refl {s:RS} (h:du L s):UI L s s:=⟨h,rfl,A7 _,id⟩
theorem UI.trans {s s2 s3:RS} (h:UI L s s2) (k:UI L s2 s3):UI L s s3:=⟨k.cA,k.bZ.trans h.bZ,Ax h.up k.up,λe=>h.err (k.err e)⟩
theorem PI.ui {s:RS} {x:PR} (h:PI L s x):UI L s x.2:=⟨h.cA,h.bZ,h.up,λe=>(h.err e).1⟩
theorem yM (hL:eR L) (w:aiA) {s:RS} (h:du L s):UI L s (yH L w s):=⟨uX hL h,DY w s,DX w s,λe=>(xa e).1⟩
theorem nD (hL:eR L) {s:RS} (h:du L s):UI L s (xC L s).2:=⟨R8 hL h,Sa s,R9 s,λe=>(NM e).1⟩
theorem xA (hL:eR L) {s:RS} (h:du L s) (hi:dq L w s):UI L s (zR s):=⟨h.next hL hi,rfl,by simp[zR],id⟩
theorem Sp (e p:Int) {s:RS} (h:du L s) (he:e≠0):UI L s (iF e p s):=⟨NK h e p,HJ e p s,by rw[HI];exact A7 _,λq=>absurd q (DU he)⟩
theorem NP (hL:eR L) {s:RS} (h:du L s):UI L s (hZ L s).2:=by
 unfold hZ
 split
 .rename_i hb
  unfold tD at hb
  simp only[Ac,ai8]at hb
  exact⟨hL.next h (by rw[hb.2];decide),rfl,by simp[zR],id⟩
 .exact Sp _ _ h dC
def kb (L:List bQ) (n gb:Int) (b:Bool) (s:RS):RS:=if s.err=0/\gb<=n then iF (if b=true then 3 else 13) (cD L s).place s else s
theorem tI {gb:Int} {b:Bool} {s:RS} (h:du L s):UI L s (kb L n gb b s):=by
 unfold kb
 split
 .exact Sp _ _ h (by split<;>decide)
 .exact UI.refl h
theorem u9 {gb:Int} {b:Bool} {s:RS} (h:(kb L n gb b s).err=0):s.err=0/\n<gb/\kb L n gb b s=s:=by
 unfold kb at h⊢
 split at h
 .exact absurd h (DU (by split<;>decide))
 .rename_i hc
  rw[ai1 hc]
  refine⟨h, ?_,rfl⟩
  by_cases q:gb<=n
  .exact absurd ⟨h,q⟩ hc
  .omega
theorem HO (L:List bQ) (hL:eR L) (s:RS) (hs:du L s) (n gb:Int) (b:Bool):bN prog 65 [.ptr 0 0,.int .i64 n,.int .i64 gb,.bool b] [rB L s] (λr I=>r= .bool ((kb L n gb b s).err==0)/\I= [rB L (kb L n gb b s)]):=by
 have ht:=nz L hL s hs
 have ae:=AK L s 3 (cD L s).place
 have ad:=AK L s 13 (cD L s).place
 have hM:kb L n gb b s=if s.err=0/\gb<=n then(if b=true then iF 3 (cD L s).place s else iF 13 (cD L s).place s)else s:=by unfold kb;cases b<;>rfl
 generalize kb L n gb b s=M at hM⊢
 have e3:(iF 3 (cD L s).place s).err≠0:=DU dC
 have af:(iF 13 (cD L s).place s).err≠0:=DU dC
 generalize iF 3 (cD L s).place s=f3 at*
 generalize iF 13 (cD L s).place s=f13 at*
 refine iW 1 func65 ntmps65 results65 λc hc hb=>zM ?_
 simp[go_sem,rB]
 by_cases q1:s.err=0
 rotate_left
 .have aa:(s.err==0)=false:=sU q1
  rw[ai1 (λh=>q1 h.1)]at hM
  simp[go_sem,aa]
  exact xN (L:=L) (s:=s) (zC rfl) ⟨by rw[hM,aa],by rw[hM];rfl⟩
 have aa:(s.err==0)=true:=sU q1
 by_cases q2:gb<=n
 rotate_left
 .have ab:decide (gb<=n)=false:=ai3 q2
  rw[ai1 (λh=>q2 h.2)]at hM
  simp[go_sem,aa,ab]
  exact xN (L:=L) (s:=s) (zC rfl) ⟨by rw[hM,aa],by rw[hM];rfl⟩
 have ab:decide (gb<=n)=true:=ai4 q2
 rw[ai2 ⟨q1,q2⟩]at hM
 simp[go_sem,aa,ab]
 refine(A6 b).elim (λq=> ?_) (λq=> ?_)
 .rw[ai2 q]at hM
  have ah:(f3.err==0)=false:=sU e3
  subst q
  simp[go_sem]
  refine pR ht ?_
  simp[go_sem]
  refine pR ae ?_
  simp[go_sem,rB]
  exact xN (L:=L) (s:=f3) (zC rfl) ⟨by rw[hM],by rw[hM];rfl⟩
 .rw[ai1 (by rw[q];decide)]at hM
  subst q
  simp[go_sem]
  refine pR ht ?_
  simp[go_sem]
  refine pR ad ?_
  simp[go_sem,rB]
  exact xN (L:=L) (s:=f13) (zC rfl) ⟨by rw[hM],by rw[hM];rfl⟩
def F2:aiA:= [67,79,85,78,84]
def qS:aiA:= [83,85,77]
def NQ:List aiA:= [[45],[40],[78,79,84],[84,82,85,69],[70,65,76,83,69],[78,85,76,76]]
def jO (L:List bQ) (item:Bool) (s:RS):Bool:=
 ((cD L s).kind==2||((cD L s).kind==3||((cD L s).kind==1&&lB (cD L s).s)))||((item&&(dq L F2 s||dq L qS s))|| !(ec L s NQ== []))
theorem Sq (L:List bQ) (hL:eR L) (s:RS) (hs:du L s) (item:Bool):bN prog 185 [.ptr 0 0,.bool item] [rB L s] (λr I=>r= .bool (jO L item s)/\I= [rB L s]):=by
 have ht:=nz L hL s hs
 have h1:=jt L hL s hs F2
 have h2:=jt L hL s hs qS
 have h3:=AL L hL s hs NQ dC
 have ab:=hL.w7 _ (FZ hs)
 have hw:=NJ (cD L s).s ab
 generalize hM:jO L item s=M
 unfold jO at hM
 generalize dq L F2 s=c1 at h1 hM
 generalize dq L qS s=c2 at h2 hM
 generalize ec L s NQ=a at h3 hM
 generalize lB (cD L s).s=b at hw hM
 have ad:(a != [])= !a.isEmpty:=by cases a<;>rfl
 have aa:(a== [])=a.isEmpty:=by cases a<;>rfl
 rw[aa]at hM
 have ret: ∀(r:Bool) (τ:St),r=M->cw (some (.bool r)) 1 (λr I=>r= .bool M/\I= [rB L s]) (rB L s::τ):=λr τ h=>by subst h;exact xN (zC rfl) ⟨rfl,rfl⟩
 refine iW 1 func185 ntmps185 results185 λc hc hb=>zM ?_
 simp[go_sem]
 refine pR ht ?_
 simp[go_sem]
 repeat' (first
  |(refine xD (λq=> ?_) (λq=> ?_)<;>simp[go_sem,q])
  |(refine zV (λq=> ?_) (λq=> ?_)<;>simp[go_sem,q])
  |(refine pC hw ?_;simp[go_sem])
  |(refine pR h1 ?_;simp[go_sem])
  |(refine pR h2 ?_;simp[go_sem])
  |(refine pR h3 ?_;simp[go_sem]))
 all_goals exact ret _ _ (by rw[<-hM];simp_all)
variable {L:List bQ}
def Eb:aiA:= [87,72,69,82,69]
def o9 (L:List bQ) (s:RS):RS:=if dq L Eb s=true then(iX L (zR s)).2 else s
def jP (e:bJ):List V:= [.int .i64 e.kind,.str e.s,.int .i64 e.v.kind,.int .i64 e.v.n,.str e.v.s,.sl .ro (e.args.map bJ.row)]
def KA (L:List bQ) (s:RS) (a b:List V) (o:Ob):Ob:=if dq L Eb s=true then .box (a++ [.bool true]++jP (iX L (zR s)).1++b)else o
theorem vd (hL:eR L) {s:RS} (h:du L s) (ho:s.bZ=0):UI L s (iX L s).2:=(NN hL h ho).ui
theorem F3 (hL:eR L) {s:RS} (h:du L s) (ho:s.bZ=0):UI L s (o9 L s):=by
 unfold o9
 split
 .rename_i hi
  exact(xA hL h hi).trans (vd hL (h.next hL hi) ho)
 .exact UI.refl h
theorem wd9 (L:List bQ) (hL:eR L) (s:RS) (hs:du L s) (ho:s.bZ=0) (τ:St) (j:Nat) (c0 c1 c2 c3 c4 c5 c6 c7 c8 c9 af ah ab ad ae:V) (hj:τ[j]? =some (.box [c0,c1,c2,c3,c4,c5,c6,c7,c8,c9,af,ah,ab,ad,ae])):
  bN prog 122 [.ptr 0 0,.ptr (j+1) 0] (rB L s::τ) (λr I=>r= .cz []/\I=rB L (o9 L s)::τ.set j (KA L s [c0,c1,c2,c3,c4] [ab,ad,ae] (.box [c0,c1,c2,c3,c4,c5,c6,c7,c8,c9,af,ah,ab,ad,ae]))):=by
 have ak:=(A4.1 hj).1
 have ai:=(A4.1 hj).2
 unfold o9 KA
 refine bN.intro (τ.length+1) func122 ntmps122 results122 rfl rfl (C4 rfl) λc hc hb=>zM ?_
 by_cases q:dq L Eb s=true
 .rw[ai2 q,ai2 q]
  have aa:=xS L hL s hs _ q
  have aj:=tH L hL (zR s) (hs.next hL q) ho
  generalize iX L (zR s)=y at aj⊢
  simp[go_sem]
  refine pR aa ?_
  simp[go_sem]
  refine jW aj cB fK ?_
  simp[go_sem,bJ.bR,ai,ak]
  refine Hl ?_ ⟨rfl, ?_⟩
  .simp
  .simp[go_sem,jP]
 .have q:dq L Eb s=false:=sU q
  have aa:=wT L hL s hs _ q
  rw[ai1 (by rw[q];decide),ai1 (by rw[q];decide)]
  simp[go_sem]
  refine pR aa ?_
  simp[go_sem]
  refine Hl sm ⟨rfl, ?_⟩
  rw[<-ai,List.set_getElem_self]
def pa (L:List bQ) (s:RS):cO×RS:=
 if dq L F2 s=true then(⟨3,de⟩,yH L [41] (yH L [42] (yH L [40] (zR s))))
 else if dq L qS s=true then(⟨4,(iX L (yH L [40] (zR s))).1⟩,yH L [41] (iX L (yH L [40] (zR s))).2)
 else(⟨2,(iX L s).1⟩,(iX L s).2)
def tJ (L:List bQ):Nat->List cO->RS->List cO×RS
 |0,l,s=>(l,s)
 |n+1,l,s=>
  if(kb L l.length 6 (jO L true s) s).err=0 then
   (if dq L [44] (pa L s).2=true then tJ L n (l++ [(pa L s).1]) (zR (pa L s).2)else(l++ [(pa L s).1],(pa L s).2))
  else(l,kb L l.length 6 (jO L true s) s)
def qT (L:List bQ) (s:RS):List cO×RS:=if dq L [42] s=true then([⟨1,de⟩],zR s)else tJ L 7 [] s
theorem NR (hL:eR L) {s:RS} (h:du L s) (ho:s.bZ=0):UI L s (pa L s).2:=by
 unfold pa
 split
 .rename_i hi
  have h1:=xA hL h hi
  have h2:=h1.trans (yM hL [40] h1.cA)
  have h3:=h2.trans (yM hL [42] h2.cA)
  exact h3.trans (yM hL [41] h3.cA)
 split
 .rename_i hi
  have h1:=xA hL h hi
  have h2:=h1.trans (yM hL [40] h1.cA)
  have h3:=h2.trans (vd hL h2.cA (h2.bZ.trans ho))
  exact h3.trans (yM hL [41] h3.cA)
 .exact vd hL h ho
theorem xu1 {τ:St} {l:List cO} {s:RS} {g:Tag} {M:List cO×RS} (h:(l,s)=M):cw (some (.sl g (l.map cO.row))) 1 (λr I=>r= .sl .ro (M.1.map cO.row)/\I= [rB L M.2]) (rB L s::τ):=by
 subst h
 exact xN zK ⟨rfl,rfl⟩
theorem xX3 (L:List bQ) (hL:eR L) (s0:RS) (an:du L s0) (ax:s0.bZ=0):bN prog 184 [.ptr 0 0] [rB L s0] (λr I=>r= .sl .ro ((qT L s0).1.map cO.row)/\I= [rB L (qT L s0).2]):=by
 generalize hM:qT L s0=M
 unfold qT at hM
 refine iV 1 func184 ntmps184 results184 λc hc hb=> ?_
 refine zA ?_
 simp[go_sem]
 by_cases q0:dq L [42] s0=true
 .rw[ai2 q0]at hM
  refine pR (xS L hL s0 an _ q0) ?_
  simp[go_sem]
  refine xN (r:= .sl .ro ([(⟨1,de⟩:cO)].map cO.row)) ?_ ⟨by rw[<-hM],by rw[<-hM]⟩
  exact zK
 have q0:dq L [42] s0=false:=sU q0
 rw[ai1 (by rw[q0];decide)]at hM
 refine pR (wT L hL s0 an _ q0) ?_
 simp[go_sem]
 refine l7 3 7 dC sg ?_
 refine zI (S:=List cO×RS) [0,3] (λu=> [.ptr 0 0,.sl (.app 1) (u.1.map cO.row)]) (λu=> [rB L u.2,.app u.1.length 7]) (λu=>7 - u.1.length) (λu=>u.1.length<=6/\UI L s0 u.2/\tJ L (7 - u.1.length) u.1 u.2=M) hc hb ([],s0) ⟨A3 _,UI.refl an,hM⟩ ?_ ?_
 .exact aN 2 (by simp[rB,bT,cS,cN])
 rintro⟨l,s⟩ ⟨hl,hu,hinv⟩
 simp only at hl hu hinv
 have hs:=hu.cA
 have ho:=hu.bZ.trans ax
 have ae:=Sq L hL s hs true
 have ab:=HO L hL s hs l.length 6 (jO L true s)
 have ao:=u9 (L:=L) (n:=l.length) (gb:=6) (b:=jO L true s) (s:=s)
 rw[show 7 - l.length=(6 - l.length)+1 by omega,tJ]at hinv
 generalize jO L true s=bg at ae ab ao hinv
 generalize kb L l.length 6 bg s=m at ab ao hinv
 by_cases q:m.err=0
 rotate_left
 .have q':(m.err==0)=false:=sU q
  rw[ai1 q]at hinv
  rw[q']at ab
  refine zA ?_
  simp[go_sem]
  refine pR ae ?_
  simp[go_sem]
  refine pR ab ?_
  simp[go_sem]
  exact xu1 hinv
 have q':(m.err==0)=true:=sU q
 obtain⟨he,ay,rfl⟩:=ao q
 rw[ai2 q]at hinv
 rw[q']at ab
 have al:=NR hL hs ho
 have ad:=hu.trans al
 generalize hit:pa L m=it at hinv al ad
 unfold pa at hit
 have aa: ∀b,dq L [44] it.2=b->bN prog 67 [.ptr 0 0,.str [44]] [rB L it.2] (λr I=>r= .bool b/\I= [rB L (if b=true then zR it.2 else it.2)]):=λb hb=>by
  cases b with
  |true=>exact xS L hL it.2 ad.cA _ hb
  |false=>exact wT L hL it.2 ad.cA _ hb
 by_cases q1:dq L F2 m=true
 .rw[ai2 q1]at hit
  have ai:=hs.next hL q1
  have aj:=lC L hL _ ai [40]
  have af:=uX hL (w:= [40]) ai
  generalize yH L [40] (zR m)=u1 at aj af hit
  have aq:=lC L hL _ af [42]
  have ar:=uX hL (w:= [42]) af
  generalize yH L [42] u1=u2 at aq ar hit
  have ak:=lC L hL _ ar [41]
  generalize yH L [41] u2=u3 at ak hit
  subst hit
  simp only at hinv ad aa
  refine zA ?_
  simp[go_sem]
  refine pR ae ?_
  simp[go_sem]
  refine pR ab ?_
  simp[go_sem]
  refine pR (xS L hL m hs _ q1) ?_
  simp[go_sem]
  refine pR aj ?_
  simp[go_sem]
  refine pR aq ?_
  simp[go_sem]
  refine pR ak ?_
  simp[go_sem]
  refine zH ⟨om,zY rfl⟩ ?_
  simp[go_sem]
  refine(A6 (dq L [44] u3)).elim (λq2=> ?_) (λq2=> ?_)
  .rw[ai2 q2]at hinv
   refine pR (aa true q2) ?_
   simp[go_sem]
   refine zJ (l++ [⟨3,de⟩],zR u3) ⟨by simp;omega,⟨by simp;omega,ad.trans (xA hL ad.cA q2),by simp only[An,Bl,show 7 - (l.length+1)=6 - l.length by omega];exact hinv⟩, ?_⟩
   exact aM 2 (by simp[rB,bT,cS,cN]) (zD (by simp[go_sem]<;>exact⟨rfl,rfl,rfl,rfl,rfl,rfl⟩) rfl)
  .rw[ai1 (by rw[q2];decide)]at hinv
   refine pR (aa false q2) ?_
   simp[go_sem]
   exact xN (L:=L) zK ⟨by rw[<-hinv];simp[cO.row]<;>exact⟨rfl,rfl,rfl,rfl,rfl,rfl⟩,by rw[<-hinv]⟩
 have q1:dq L F2 m=false:=sU q1
 rw[ai1 (by rw[q1];decide)]at hit
 by_cases ah:dq L qS m=true
 .rw[ai2 ah]at hit
  have ai:=hs.next hL ah
  have aj:=lC L hL _ ai [40]
  have af:=uX hL (w:= [40]) ai
  have au:=DY (L:=L) [40] (zR m)
  generalize yH L [40] (zR m)=u1 at aj af au hit
  have av:u1.bZ=0:=by rw[au];exact ho
  have hx:=tH L hL u1 af av
  have aw:=(NN hL af av).cA
  generalize iX L u1=x at hx aw hit
  have ak:=lC L hL _ aw [41]
  generalize yH L [41] x.2=u3 at ak hit
  subst hit
  simp only at hinv ad aa
  refine zA ?_
  simp[go_sem]
  refine pR ae ?_
  simp[go_sem]
  refine pR ab ?_
  simp[go_sem]
  refine pR (wT L hL m hs _ q1) ?_
  simp[go_sem]
  refine pR (xS L hL m hs _ ah) ?_
  simp[go_sem]
  refine pR aj ?_
  simp[go_sem]
  refine jW hx cB fK ?_
  simp[go_sem,bJ.bR]
  refine pR ak ?_
  simp[go_sem]
  refine zH ⟨om,zY rfl⟩ ?_
  simp[go_sem]
  refine(A6 (dq L [44] u3)).elim (λq2=> ?_) (λq2=> ?_)
  .rw[ai2 q2]at hinv
   refine pR (aa true q2) ?_
   simp[go_sem]
   refine zJ (l++ [⟨4,x.1⟩],zR u3) ⟨by simp;omega,⟨by simp;omega,ad.trans (xA hL ad.cA q2),by simp only[An,Bl,show 7 - (l.length+1)=6 - l.length by omega];exact hinv⟩, ?_⟩
   exact aM 2 (by simp[rB,bT,cS,cN]) (zD (by simp[go_sem]<;>exact⟨rfl,rfl,rfl,rfl,rfl,rfl⟩) rfl)
  .rw[ai1 (by rw[q2];decide)]at hinv
   refine pR (aa false q2) ?_
   simp[go_sem]
   exact xN (L:=L) zK ⟨by rw[<-hinv];simp[cO.row]<;>exact⟨rfl,rfl,rfl,rfl,rfl,rfl⟩,by rw[<-hinv]⟩
 have ah:dq L qS m=false:=sU ah
 rw[ai1 (by rw[ah];decide)]at hit
 .have hx:=tH L hL m hs ho
  generalize iX L m=x at hx hit
  subst hit
  simp only at hinv ad aa
  refine zA ?_
  simp[go_sem]
  refine pR ae ?_
  simp[go_sem]
  refine pR ab ?_
  simp[go_sem]
  refine pR (wT L hL m hs _ q1) ?_
  simp[go_sem]
  refine pR (wT L hL m hs _ ah) ?_
  simp[go_sem]
  refine jW hx cB fK ?_
  simp[go_sem,bJ.bR]
  refine zH ⟨om,zY rfl⟩ ?_
  simp[go_sem]
  refine(A6 (dq L [44] x.2)).elim (λq2=> ?_) (λq2=> ?_)
  .rw[ai2 q2]at hinv
   refine pR (aa true q2) ?_
   simp[go_sem]
   refine zJ (l++ [⟨2,x.1⟩],zR x.2) ⟨by simp;omega,⟨by simp;omega,ad.trans (xA hL ad.cA q2),by simp only[An,Bl,show 7 - (l.length+1)=6 - l.length by omega];exact hinv⟩, ?_⟩
   exact aM 2 (by simp[rB,bT,cS,cN]) (zD (by simp[go_sem]<;>exact⟨rfl,rfl,rfl,rfl,rfl,rfl⟩) rfl)
  .rw[ai1 (by rw[q2];decide)]at hinv
   refine pR (aa false q2) ?_
   simp[go_sem]
   exact xN (L:=L) zK ⟨by rw[<-hinv];simp[cO.row]<;>exact⟨rfl,rfl,rfl,rfl,rfl,rfl⟩,by rw[<-hinv]⟩
end Go.Proofs.YtplackkccmeioaaGreat
