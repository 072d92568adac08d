/-
  The document's reader of statements: what a SELECT tells, and WHERE, over trees (the library Vx); used by the theorem at the end of the claim.
  Conditions: as each theorem states them.
-/
import Derived.Test.YtefbicjgbaaieaaGreatMAE
set_option maxHeartbeats 8000000
namespace Go.Proofs.YtefbicjgbaaieaaGreat
open Go Go.Vx Go.Proofs.Tryz
set_option maxRecDepth 100000
variable {τ:St}{P:Program}{c:Ctx}{f:FuncId}{bU:List V}{bZ:List V}{KV:V->St->Prop}
def IS (s:afE):afE:=if s= [60]then [62]else if s= [60,61]then [62,61]else if s= [62]then [60]else if s= [62,61]then [60,61]else s
theorem Ys (s:afE):Pure prog 180 [.str s] (.str (IS s)):=by
 generalize hM:IS s=M
 have ret: ∀(r:afE) (U:St),r=M->cj (some (.str r)) 0 (λr s=>r= .str M/\s= []) U:=λr U h=>by subst h;exact wR
 unfold IS at hM
 refine iW 0 func180 ntmps180 results180 λc hc hb=>zL ?_
 simp[go_sem]
 repeat' (first|(refine xD (λq=> ?_) (λq=> ?_)<;>simp[go_sem,q])|(refine zS (λq=> ?_) (λq=> ?_)<;>simp[go_sem,q]))
 all_goals exact ret _ _ (by simp_all)
def j7:List afE:= [[79,82],[65,78,68],[61],[60,62],[60],[60,61],[62],[62,61],[43],[45],[42],[47],[37]]
def lJ:List afE:= [[78,79,84],[73,83,78,85,76,76],[78,79,84,78,85,76,76],[78,69,71]]
def rS (s:afE):Int:=if j7.contains s=true then 2 else if lJ.contains s=true then 1 else 0
def tg (b:Bool):bG:=⟨1,if b then 1 else 0,[]⟩
theorem Ex (b:Bool):Pure prog 226 [.bool b] (.agg (tg b).row):=by
 refine iW 0 func226 ntmps226 results226 λc hc hb=>zL ?_
 simp[go_sem]
 cases b<;>simp[go_sem]<;>exact wR
theorem IT (v:bG):Pure prog 314 [.agg v.row] (.bool (v.kind==0)):=by
 refine iW 0 func314 ntmps314 results314 λc hc hb=>zL ?_
 simp[go_sem]
 exact wR
def uP (many Me:Bool) (k:Int):Int×Int:=if many=false then(0,9)else if Me=false then(0,15)else(k,0)
def wJ (r:Int×Int):V:= .cm [.int .i64 r.1,.int .i64 r.2]
theorem wV {r:Int×Int} {a e:Int} {U:St} (h:r=(a,e)):cj (some (.cm [.int .i64 a,.int .i64 e])) 0 (λv s=>v=wJ r/\s= []) U:=by
 subst h
 exact wR
theorem IU (many aa:Bool) (k:Int):Pure prog 347 [.bool many,.bool aa,.int .i64 k] (wJ (uP many aa k)):=by
 refine iW 0 func347 ntmps347 results347 λc hc hb=>zL ?_
 cases many<;>cases aa<;>simp[go_sem]<;>exact wV rfl
def gL (l:afH) (k:Int):Bool:=l.all λx=>x==k||x==0
theorem IV (l:afH) (k:Int) (hl:l.length<=maxLen):Pure prog 348 [.sl .ro (l.map λn=> [V.int .i64 n]),.int .i64 k] (.bool (gL l k)):=by
 generalize hM:gL l k=M
 have ret: ∀(r:Bool) (U:St),r=M->cj (some (.bool r)) 0 (λr s=>r= .bool M/\s= []) U:=λr U h=>by subst h;exact wR
 unfold gL at hM
 refine iV 0 func348 ntmps348 results348 λc hc hb=> ?_
 refine zA ?_
 simp[go_sem]
 refine zH (S:=Nat) [1,7,8,9] (λi=> [.int .i64 k,.sl .ro (l.map λn=> [V.int .i64 n]),.int .i64 l.length,.int .i64 i]) (λ_=> []) (λi=>l.length - i) (λi=>i<=l.length/\((l.drop i).all λx=>x==k||x==0)=M) hc hb 0 ⟨A5 _,hM⟩ ?_ ?_
 .exact aO
 rintro i ⟨hi,hinv⟩
 by_cases q:i<l.length
 rotate_left
 .have e:l.drop i= []:=A8 om
  rw[e]at hinv
  refine zA ?_
  simp[go_sem,q]
  exact ret _ _ hinv
 have ei:=zR q (by unfold maxLen at hl;omega)
 obtain⟨r,hr⟩:=eX (l[i])
 rw[A2 q,Aq,hr]at hinv
 refine zA ?_
 simp[go_sem,q,hr]
 by_cases w1:r=k
 .simp[go_sem,w1,ei]
  rw[w1,beq_self_eq_true,D5,B2]at hinv
  exact zG (i+1) ⟨om,⟨q,hinv⟩,aO⟩
 have aa:(r !=k)=true:=sU w1
 by_cases w2:r=0
 .have w3:(r !=0)=false:=by simp[w2]
  simp[go_sem,aa,w3,ei]
  rw[w2,beq_self_eq_true,Dy,B2]at hinv
  exact zG (i+1) ⟨om,⟨q,hinv⟩,aO⟩
 have ab:(r !=0)=true:=sU w2
 simp[go_sem,aa,ab]
 exact ret _ _ (by rw[<-hinv,show(r==k)=false by simpa using w1,show(r==0)=false by simpa using w2];rfl)
def nU (s:afE) (l:afH):Int×Int:=
 if s= [73,83,78,85,76,76]\/s= [78,79,84,78,85,76,76]then uP ((l.length:Int)==1) true 1
 else if s= [78,79,84]then uP ((l.length:Int)==1) (gL l 1) 1
 else if s= [78,69,71]then uP ((l.length:Int)==1) (gL l 2) 2
 else if s= [79,82]\/s= [65,78,68]then uP ((l.length:Int)==2) (gL l 1) 1
 else if s= [43]\/s= [45]\/s= [42]\/s= [47]\/s= [37]then uP ((l.length:Int)==2) (gL l 2) 2
 else if s= [61]\/s= [60,62]\/s= [60]\/s= [60,61]\/s= [62]\/s= [62,61]then
  uP ((l.length:Int)==2) ((l.length:Int)==2&&(l.getD 0 0==l.getD 1 0||(l.getD 0 0==0||l.getD 1 0==0))) 1
 else(0,9)
theorem Yt (s:afE) (x y:Int):Pure prog 313 [.str s,.sl .ro [[.int .i64 x],[.int .i64 y]]] (wJ (nU s [x,y])):=by
 generalize hM:nU s [x,y]=M
 have ret: ∀(r:Int×Int) (U:St),r=M->cj (some (.cm [.int .i64 r.1,.int .i64 r.2])) 0 (λr s=>r=wJ M/\s= []) U:=λr U h=>by subst h;exact yL (zC rfl) (by trivial)
 unfold nU at hM
 have h1:=IV [x,y] 1 (by unfold maxLen;simp)
 have h2:=IV [x,y] 2 (by unfold maxLen;simp)
 simp only[Ai,Bk]at h1 h2
 generalize gL [x,y] 1=a1 at h1 hM
 generalize gL [x,y] 2=a2 at h2 hM
 simp only[List.getD_cons_zero,List.getD_cons_succ]at hM
 refine iW 0 func313 ntmps313 results313 λc hc hb=>zL ?_
 simp[go_sem]
 repeat' (first
  |(refine zS (λq=> ?_) (λq=> ?_)<;>simp[go_sem,q])
  |(refine xD (λq=> ?_) (λq=> ?_)<;>simp[go_sem,q])
  |(refine yV [(23,0)] 0 rfl kR kR ?_;simp[go_sem])
  |(refine pC h1 ?_;simp[go_sem])
  |(refine pC h2 ?_;simp[go_sem])
  |(refine pC (IU _ _ _) ?_;simp[go_sem,wJ])
  |(refine pD (IU _ _ _) ?_;simp[go_sem,wJ]))
 all_goals first|exact ret _ _ (by simp_all)|exact ret (0,9) _ (by simp_all)
theorem Yu (s:afE) (l:afH) (hl:l.length<=maxLen) (hn:((l.length:Int)==2)=false):Pure prog 313 [.str s,.sl .ro (l.map λn=> [V.int .i64 n])] (wJ (nU s l)):=by
 generalize hM:nU s l=M
 have ret: ∀(r:Int×Int) (U:St),r=M->cj (some (.cm [.int .i64 r.1,.int .i64 r.2])) 0 (λr s=>r=wJ M/\s= []) U:=λr U h=>by subst h;exact yL (zC rfl) (by trivial)
 unfold nU at hM
 have h1:=IV l 1 hl
 have h2:=IV l 2 hl
 generalize gL l 1=a1 at h1 hM
 generalize gL l 2=a2 at h2 hM
 simp only[hn,Dk]at hM
 refine iW 0 func313 ntmps313 results313 λc hc hb=>zL ?_
 simp[go_sem]
 repeat' (first
  |(refine zS (λq=> ?_) (λq=> ?_)<;>simp[go_sem,q,hn])
  |(refine yV [(23,0)] 0 rfl kR kR ?_;simp[go_sem])
  |(refine pC h1 ?_;simp[go_sem])
  |(refine pC h2 ?_;simp[go_sem])
  |(refine pC (IU _ _ _) ?_;simp[go_sem,wJ])
  |(refine pD (IU _ _ _) ?_;simp[go_sem,wJ]))
 all_goals first|exact ret _ _ (by simp_all)|exact ret (0,9) _ (by simp_all)
theorem Yv (s:afE) (l:afH) (hl:l.length<=maxLen):Pure prog 313 [.str s,.sl .ro (l.map λn=> [V.int .i64 n])] (wJ (nU s l)):=by
 by_cases h:l.length=2
 .match l,h with
  | [x,y],_=>grind[Yt]
 grind[Yu]
theorem yc {ρ:Nat->Nat} {g:Tag} {rows eY:List (List V)} (h:eY=rows):cF ρ (.sl .ro eY) (.sl g rows):=by subst h;exact zK
theorem IW {n:Int} (h:0<=n) (h2:n<=255):IntKind.u8.wrap n=n:=by
 unfold IntKind.wrap
 simp[IntKind.bits,IntKind.signed]
 omega
def yG (c:UInt8):UInt8:=if 97<=c.toNat/\c.toNat<=122 then UInt8.ofNat (c.toNat - 32)else c
def xN (c:UInt8):Bool:=decide (48<=c.toNat/\c.toNat<=57)
def wM (c:UInt8):Bool:=decide (65<=(yG c).toNat/\(yG c).toNat<=90)||decide (c.toNat=95)
theorem Mf (c:UInt8):Pure prog 205 [.int .u8 c.toNat] (.int .u8 (yG c).toNat):=by
 have hc:=c.toNat_lt
 have ret: ∀(r:Int) (U:St),r=((yG c).toNat:Int)->cj (some (.int .u8 r)) 0 (λr s=>r= .int .u8 (yG c).toNat/\s= []) U:=λr U h=>by subst h;exact wR
 unfold yG at ret⊢
 obtain⟨n,hn⟩:=eX c.toNat
 have aa:n<=255->(UInt8.ofNat (n - 32)).toNat=n - 32:=λh=>by
  rw[UInt8.toNat_ofNat'];exact Cm om
 rw[hn]at hc ret⊢
 refine iW 0 func205 ntmps205 results205 λc hc hb=>zL ?_
 simp[go_sem]
 refine xD (λq=> ?_) (λq=> ?_)
 .have q1:97<=n:=by simp at q;omega
  simp[go_sem,q]
  refine zS (λq2=> ?_) (λq2=> ?_)
  .have q2:n<=122:=by simp at q2;omega
   have e1:IntKind.u8.wrap ((n:Int) - 97)=(n:Int) - 97:=IW om om
   have e2:IntKind.u8.wrap ((n:Int) - 97+65)=(n:Int) - 97+65:=IW om om
   simp[go_sem,e1,e2]
   exact ret _ _ (by rw[afb ⟨q1,q2⟩,aa om];omega)
  .have q2: ¬n<=122:=by simp at q2;omega
   simp[go_sem]
   exact ret _ _ (by rw[afa (λh=>q2 h.2),hn])
 .have q1: ¬97<=n:=by simp at q;omega
  simp[go_sem,q]
  exact ret _ _ (by rw[afa (λh=>q1 h.1),hn])
theorem Gm (c:UInt8):Pure prog 204 [.int .u8 c.toNat] (.bool (xN c)):=by
 unfold xN
 generalize c.toNat=n
 generalize hM:decide (48<=n/\n<=57)=M
 have ret: ∀(r:Bool) (U:St),r=M->cj (some (.bool r)) 0 (λr s=>r= .bool M/\s= []) U:=λr U h=>by subst h;exact wR
 refine iW 0 func204 ntmps204 results204 λc hc hb=>zL ?_
 simp[go_sem]
 refine xD (λq=> ?_) (λq=> ?_)
 .simp[go_sem,q]
  refine ret _ _ ?_
  rw[<-hM]
  simp at q
  exact decide_eq_decide.2 om
 .simp[go_sem,q]
  refine ret _ _ ?_
  rw[<-hM]
  simp at q
  exact(afc om).symm
theorem IX (c:UInt8):Pure prog 203 [.int .u8 c.toNat] (.bool (wM c)):=by
 have hg:=Mf c
 unfold wM
 revert hg
 generalize (yG c).toNat=g
 generalize c.toNat=n
 generalize hM:(decide (65<=g/\g<=90)||decide (n=95))=M
 have ret: ∀(r:Bool) (U:St),r=M->cj (some (.bool r)) 0 (λr s=>r= .bool M/\s= []) U:=λr U h=>by subst h;exact wR
 have aa: ∀(a:Nat) (b:Bool),((a:Int)==95)=b->decide (a=95)=b:=λa b h=>by
  rw[<-h]
  by_cases q:a=95
  .subst q;rfl
  .rw[afc q]
   exact(beq_eq_false_iff_ne.2 om).symm
 intro hg
 refine iW 0 func203 ntmps203 results203 λc hc hb=>zL ?_
 simp[go_sem]
 refine pC hg ?_
 simp[go_sem]
 refine xD (λq=> ?_) (λq=> ?_)
 .simp[go_sem,q]
  refine pC hg ?_
  simp[go_sem]
  simp at q
  refine xD (λq2=> ?_) (λq2=> ?_)
  .have q3: ¬g<=90:=by simp at q2;omega
   simp[go_sem,q2]
   exact ret _ _ (by rw[<-hM,afc (λh=>q3 h.2),Bj];exact(aa n _ rfl).symm)
  .have q3:g<=90:=by simp at q2;omega
   simp[go_sem,q2]
   exact ret _ _ (by rw[<-hM,afd ⟨om,q3⟩];rfl)
 .have q3: ¬65<=g:=by simp at q;omega
  simp[go_sem,q]
  exact ret _ _ (by rw[<-hM,afc (λh=>q3 h.1),Bj];exact(aa n _ rfl).symm)
def iL:List afE:= [[65,76,76],[65,78,68],[65,83],[65,83,67],[66,69,84,87,69,69,78],[66,79,85,78,68],[66,89],[67,79,85,78,84],[68,69,76,69,84,69],[68,69,83,67],[69,88,65,67,84],[70,65,76,83,69],[70,82,79,77],[73,78,83,69,82,84],[73,78,84,79],[73,83],[76,73,77,73,84],[78,79,84],[78,85,76,76],[78,79,87],[79,70],[79,82],[79,82,68,69,82],[83,69,76,69,67,84],[83,69,84],[83,85,77],[83,89,83,84,69,77],[84,73,77,69],[84,82,85,69],[85,80,68,65,84,69],[86,65,76,85,69,83],[87,72,69,82,69]]
theorem IY:iL.length=32:=rfl
theorem Yw:Pure prog 249 [] (.sl .ro (iL.map λs=> [.str s])):=by
 refine iW 0 func249 ntmps249 results249 λc hc hb=>zL ?_
 simp[go_sem]
 exact yL (yc (by simp[iL])) ⟨rfl,rfl⟩
def th (c:UInt8):Bool:=(wM c||xN c)&&(yG c==c)
def j8 (s:afE):Bool:=decide (1<=s.length/\s.length<=16)&&(!xN (s.headD 0)&&(s.all th&& !iL.contains s))
theorem Mg (s:afE) (hl:s.length<=maxLen):Pure prog 170 [.str s] (.bool (j8 s)):=by
 generalize hM:j8 s=M
 unfold j8 at hM
 have ret: ∀(r:Bool) (U:St),r=M->cj (some (.bool r)) 0 (λr s=>r= .bool M/\s= []) U:=λr U h=>by subst h;exact wR
 refine iV 0 func170 ntmps170 results170 λc hc hb=> ?_
 refine zA ?_
 simp[go_sem]
 by_cases h0:s.length=0
 .have ae:((s.length:Int)==0)=true:=sU h0
  simp[go_sem,ae]
  exact ret _ _ (by rw[<-hM,afc om];rfl)
 have ae:((s.length:Int)==0)=false:=sU h0
 simp[go_sem,ae]
 by_cases ag:s.length<=16
 rotate_left
 .have ad:decide (16<(s.length:Int))=true:=by simp;omega
  simp[go_sem,ad]
  exact ret _ _ (by rw[<-hM,afc om];rfl)
 have ad:decide (16<(s.length:Int))=false:=by simp;omega
 rw[afd ⟨om,ag⟩,B2]at hM
 have hp:0<s.length:=om
 obtain⟨c0,af⟩: ∃c,s[0]=c:=⟨_,rfl⟩
 have ah:s.headD 0=c0:=by
  rw[<-af]
  cases s with
  |nil=>simp at hp
  |cons x l=>rfl
 rw[ah]at hM
 simp[go_sem,ad,hp,af]
 try (refine zI om ?_;simp[go_sem])
 refine pC (Gm c0) ?_
 simp[go_sem]
 refine zS (λhd=> ?_) (λhd=> ?_)
 .simp[go_sem]
  exact ret _ _ (by rw[<-hM,hd];rfl)
 rw[hd,Bool.not_false,B2]at hM
 simp[go_sem]
 refine zH (S:=Nat) [0,3] (λi=> [.str s,.int .i64 i]) (λ_=> []) (λi=>s.length - i) (λi=>i<=s.length/\(s.drop i).all th=s.all th) hc hb 0 ⟨A5 _,rfl⟩ ?_ ?_
 .exact aO
 rintro i ⟨hi,hinv⟩
 refine zA ?_
 simp[go_sem]
 refine zS (λq=> ?_) (λq=> ?_)
 .have q:i<s.length:=sU q
  have ei:=zR q om
  obtain⟨c1,aa⟩: ∃c,s[i]=c:=⟨_,rfl⟩
  rw[A2 q,Aq,aa]at hinv
  have cH:th c1=((wM c1||xN c1)&&(yG c1==c1)):=rfl
  have g1:=IX c1
  have g2:=Gm c1
  have g3:=Mf c1
  have ab:(((yG c1).toNat:Int) !=(c1.toNat:Int))= !(yG c1==c1):=by
   by_cases h:yG c1=c1
   .rw[h];simp
   .have: ¬(yG c1).toNat=c1.toNat:=λw=>h (UInt8.toNat_inj.1 w)
    rw[beq_eq_false_iff_ne.2 h]
    simp
    omega
  revert cH g1 g2 g3 ab
  generalize wM c1=bl
  generalize xN c1=bd
  generalize ai:(yG c1==c1)=bg
  generalize yG c1=cg
  intro cH g1 g2 g3 ab
  have bad: ∀(b:Bool) (U:St),th c1=false->cj (some (.bool false)) 0 (λr s=>r= .bool M/\s= []) U:=λb U h=>ret _ _ (by rw[<-hM,<-hinv,h];rfl)
  have dD:th c1=true->(s.drop (i+1)).all th=s.all th:=λh=>by rw[<-hinv,h,B2]
  simp[go_sem]
  refine yV [(3,0),(9,0),(16,0)] 0 rfl kR kR ?_
  simp[go_sem,q,aa]
  refine pD g1 ?_
  simp[go_sem]
  refine(A4 bl).elim (λw=> ?_) (λw=> ?_)
  .simp[go_sem,w,q,aa]
   refine pD g3 ?_
   simp[go_sem,q,aa]
   refine zS (λw3=> ?_) (λw3=> ?_)
   .simp[go_sem]
    exact bad true _ (by rw[cH,w];rw[ab]at w3;simpa using w3)
   .simp[go_sem,ei]
    exact zG (i+1) ⟨om,⟨q,dD (by rw[cH,w];rw[ab]at w3;simpa using w3)⟩,aO⟩
  .simp[go_sem,w,q,aa]
   refine pD g2 ?_
   simp[go_sem]
   refine(A4 bd).elim (λw2=> ?_) (λw2=> ?_)
   .simp[go_sem,w2,q,aa]
    refine pD g3 ?_
    simp[go_sem,q,aa]
    refine zS (λw3=> ?_) (λw3=> ?_)
    .simp[go_sem]
     exact bad true _ (by rw[cH,w,w2];rw[ab]at w3;simpa using w3)
    .simp[go_sem,ei]
     exact zG (i+1) ⟨om,⟨q,dD (by rw[cH,w,w2];rw[ab]at w3;simpa using w3)⟩,aO⟩
   .simp[go_sem,w2]
    exact bad true _ (by rw[cH,w,w2];rfl)
 .have q:i=s.length:=by
   have: ¬i<s.length:=sU q
   omega
  subst q
  rw[Cd,D6]at hinv
  rw[<-hinv,B2]at hM
  simp[go_sem]
  refine pC Yw ?_
  simp[go_sem]
  refine zH (S:=Nat) [0,4,5] (λi=> [.str s,.sl .ro (iL.map λs=> [.str s]),.int .i64 i]) (λ_=> []) (λi=>32 - i) (λi=>i<=32/\(iL.drop i).contains s=iL.contains s) hc hb 0 ⟨A5 _,rfl⟩ ?_ ?_
  .exact aO
  rintro i ⟨hi,hinv⟩
  refine zA ?_
  simp[go_sem,IY]
  refine zS (λq=> ?_) (λq=> ?_)
  .have q:i<32:=by simp at q;omega
   have q2:i<iL.length:=by rw[IY];exact q
   have ei:=zR q om
   obtain⟨x,hx⟩:=eX (iL[i])
   rw[A2 q2,Ds,hx]at hinv
   simp[go_sem,IY,q,hx]
   try (refine zI om ?_;simp[go_sem])
   refine zS (λw=> ?_) (λw=> ?_)
   .have w:x=s:=sU w
    simp[go_sem]
    exact ret _ _ (by rw[<-hM,<-hinv,w];simp)
   .have w: ¬x=s:=sU w
    have w2:(s==x)=false:=beq_eq_false_iff_ne.2 λh=>w h.symm
    rw[w2,Bj]at hinv
    simp[go_sem,ei]
    exact zG (i+1) ⟨om,⟨q,hinv⟩,aO⟩
  .have q:i=32:=by simp at q;omega
   subst q
   rw[C8 (by rw[IY];exact A3 _)]at hinv
   simp[go_sem]
   exact ret _ _ (by rw[<-hM,<-hinv];rfl)
structure bJ where
 kind:Int
 place:Int
 s:afE
 n:Int
 deriving DecidableEq
@[go_sem] def bJ.row (x:bJ):List V:= [.int .i64 x.kind,.int .i64 x.place,.str x.s,.int .i64 x.n]
structure RS where
 at_:Nat
 bS:Int
 err:Int
 place:Int
 deriving DecidableEq
def rB (L:List bJ) (s:RS):Ob:= .box [.sl .ro (L.map bJ.row),.int .i64 (s.at_:Int),.int .i64 s.bS,.int .i64 s.err,.int .i64 s.place]
theorem IZ (L:List bJ) (s:RS) (n:Nat):bP n (rB L s)=true:=by rfl
def xA:bJ:=⟨0,0,[],0⟩
def bV (L:List bJ) (s:RS):bJ:=L.getD s.at_ xA
def wL (e place:Int) (s:RS):RS:=if s.err=0 then{s with err:=e,place:=place}else s
def zJ (s:RS):RS:={s with at_:=s.at_+1}
def cW (s:RS):RS:={s with bS:=s.bS - 1}
def cC (L:List bJ) (w:afE) (s:RS):Bool:=s.err==0&&(((bV L s).kind==1||(bV L s).kind==4)&&(bV L s).s==w)
def lK (L:List bJ) (w:afE) (s:RS):RS:=if cC L w s=true then zJ s else s
def zV (L:List bJ) (w:afE) (s:RS):RS:=if cC L w s=true then zJ s else wL 13 (bV L s).place s
def tj (L:List bJ) (s:RS):Bool:=s.err==0&&((bV L s).kind==1&&j8 (bV L s).s)
def yN (L:List bJ) (s:RS):afE×RS:=if tj L s=true then((bV L s).s,zJ s)else([],wL 13 (bV L s).place s)
def lL (L:List bJ) (s:RS):Bool:=s.err==0&&(bV L s).kind==2
def fR (L:List bJ) (s:RS):Int×RS:=if lL L s=true then((bV L s).n,zJ s)else(0,wL 13 (bV L s).place s)
def dm (L:List bJ) (s:RS):List afE->afE
 | []=> []
 |w::ws=>if cC L w s=true then w else dm L s ws
def yD (L:List bJ) (s:RS):RS:=if s.err=0/\s.bS+1>200 then{s with bS:=s.bS+1,err:=3,place:=(bV L s).place}else{s with bS:=s.bS+1}
structure cP (L:List bJ) (s:RS):Prop where
 at_:s.at_<L.length
 bS:0<=s.bS/\s.bS<=100000
structure ee (L:List bJ):Prop where
 len:L.length<=1000000
 last: ∀i,L.length=i+1->(L.getD i xA).kind=0
 uQ: ∀t∈L,t.s.length<=maxLen
theorem ee.next {L:List bJ} (h:ee L) {s:RS} (hs:cP L s) (hk:(bV L s).kind≠0):cP L (zJ s):=by
 refine⟨?_,hs.bS⟩
 have h1:=hs.at_
 rcases Bo (s.at_+1) L.length with h2|h2
 .exact h2
 .exact absurd (h.last s.at_ om) hk
theorem Yx {L:List bJ} {w:afE} {s:RS} (h:cC L w s):(bV L s).kind≠0/\s.err=0:=by
 simp_all[cC];omega
theorem mG (L:List bJ) (hL:ee L) (s:RS) (hs:cP L s):bK prog 76 [.ptr 0 0] [rB L s] (λr U=>r= .agg (bV L s).row/\U= [rB L s]):=by
 have h1:=hs.at_
 have hl:=hL.len
 obtain⟨t,ht⟩:=eX (L[s.at_])
 have aa:bV L s=t:=by unfold bV;grind
 rw[aa]
 refine iW 1 func76 ntmps76 results76 λc hc hb=>zL ?_
 simp[go_sem,rB]
 refine nR [(10,4)] 2 sm (by rfl) kR ?_
 simp[go_sem,h1,ht]
 exact xM 1 rfl rfl rfl om (zC rfl) sm
theorem Gn {args:List V} {L:List bJ} {s s':RS} {v:V} (hc:bK P f bZ [rB L s] (λr U=>r=v/\U= [rB L s'])) (hb:wE P f)
  (aa:bL (cF (cz [0] (τ.length+1))) bZ (args++bU)) (hn:gR v) (hk:KV v (rB L s'::τ)):iZ P c (.fn f bU) args (rB L s::τ) KV fx:=by
 refine lF 0 hc hb rfl (by rfl) aa (by grind[IZ]) ?_
 rintro r o2 ⟨rfl,h2⟩
 obtain rfl:o2=rB L s':=by grind
 grind[xg]
theorem rT {n:Nat} {args:List V} {L:List bJ} {s s':RS} {v:V} (hc:bK P f bZ [rB L s] (λr U=>r=v/\U= [rB L s'])) (hb:wE P f)
  (aa:bL (cF (cz [0] (τ.length+1))) bZ (args++bU)) (hn:gR v) (hk:KV v (rB L s'::τ)):pz P c ⟨1,n,[],none⟩ 3 (.fn f bU) args (rB L s::τ) KV fx:=
 W5 hc hb rfl (by rfl) (by rfl) aa hn hk
theorem wI {N:Nat} {l l':List V} (h:bL (cF (cz [0] N)) l l'):bL (cF (cz [0] N)) (.ptr 0 0::l) (.ptr 0 0::l'):=⟨.inl rfl,h⟩
theorem fb {N:Nat}:bL (cF (cz [0] N)) [.ptr 0 0] [.ptr 0 0]:=wI trivial
theorem pR {args:List V} {L:List bJ} {s s':RS} {v:V} (hc:bK P f bZ [rB L s] (λr U=>r=v/\U= [rB L s'])) (hk:KV v (rB L s'::τ))
  (aa:bL (cF (cz [0] (τ.length+1))) bZ (args++bU):=by first|exact fb|exact wI (zZ rfl)|exact wI ⟨zK,zZ rfl⟩|exact wI ⟨zC rfl,zK,zZ rfl⟩|exact wI ⟨zK,zK,zZ rfl⟩)
  (hb:wE P f=true:=by kernel_rfl) (hn:gR v=true:=by rfl):iZ P c (.fn f bU) args (rB L s::τ) KV fx:=Gn hc hb aa hn hk
theorem xF {R:V->St->Prop} {L:List bJ} {s:RS} {v r:V} (hr:cF (cz (List.range 1) (rB L s::τ).length) r v) (hR:R r [rB L s]):cj (some v) 1 R (rB L s::τ):=
 xM 1 rfl rfl (by rfl) om hr hR
theorem iM (L:List bJ) (hL:ee L) (s:RS) (hs:cP L s) (w:afE):bK prog 75 [.ptr 0 0,.str w] [rB L s] (λr U=>r= .bool (cC L w s)/\U= [rB L s]):=by
 have ht:=mG L hL s hs
 have aa:(bV L s).s.length<=maxLen:=by
  unfold bV
  rw[A9,A0 hs.at_]
  exact hL.uQ _ sm
 generalize hM:cC L w s=M
 unfold cC at hM
 obtain⟨t,ab⟩:=eX (bV L s)
 rw[ab]at hM ht aa
 have ret: ∀(r:Bool) (τ:St),r=M->cj (some (.bool r)) 1 (λr U=>r= .bool M/\U= [rB L s]) (rB L s::τ):=λr τ h=>by subst h;exact xF (zC rfl) sm
 refine iW 1 func75 ntmps75 results75 λc hc hb=>zL ?_
 simp[go_sem]
 refine pR ht ?_
 simp[go_sem,rB]
 repeat' (first|(refine xD (λq=> ?_) (λq=> ?_)<;>simp[go_sem,q])|(refine zS (λq=> ?_) (λq=> ?_)<;>simp[go_sem,q]))
 all_goals exact ret _ _ (by rw[<-hM];simp_all)
theorem BG (L:List bJ) (hL:ee L) (s:RS) (hs:cP L s) (w:afE):bK prog 74 [.ptr 0 0,.str w] [rB L s] (λr U=>r= .bool (cC L w s)/\U= [rB L (lK L w s)]):=by
 have hi:=iM L hL s hs w
 have h1:=hs.at_
 have hl:=hL.len
 have ei:IntKind.i64.wrap ((s.at_:Int)+1)=((s.at_+1:Nat):Int):=by grind[bR]
 unfold lK
 generalize cC L w s=b at hi
 refine iW 1 func74 ntmps74 results74 λc hc hb=>zL ?_
 simp[go_sem]
 refine pR hi ?_
 simp[go_sem,rB]
 refine(A4 b).elim (λq=> ?_) (λq=> ?_)
 all_goals subst q
 all_goals simp[go_sem,ei]
 .exact xF (s:=zJ s) (zC rfl) (by trivial)
 .exact xF (s:=s) (zC rfl) (by trivial)
theorem yd (L:List bJ) (s:RS) (e p:Int):bK prog 79 [.ptr 0 0,.int .i64 e,.int .i64 p] [rB L s] (λr U=>r= .cm []/\U= [rB L (wL e p s)]):=by
 unfold wL
 refine iW 1 func79 ntmps79 results79 λc hc hb=>zL ?_
 simp[go_sem,rB]
 refine zS (λq=> ?_) (λq=> ?_)
 .have q:s.err=0:=by grind
  simp[go_sem,q]
  exact xF (s:={s with err:=e,place:=p}) (zC rfl) (by trivial)
 .have q: ¬s.err=0:=by grind
  simp[go_sem,q]
  exact xF (s:=s) (zC rfl) (by trivial)
theorem kQ (L:List bJ) (hL:ee L) (s:RS) (hs:cP L s) (w:afE):bK prog 77 [.ptr 0 0,.str w] [rB L s] (λr U=>r= .cm []/\U= [rB L (zV L w s)]):=by
 have he:=BG L hL s hs w
 have ht:=mG L hL s hs
 have hf:=yd L s 13 (bV L s).place
 unfold lK at he
 unfold zV
 generalize cC L w s=b at he
 refine iW 1 func77 ntmps77 results77 λc hc hb=>zL ?_
 simp[go_sem]
 refine pR he ?_
 simp[go_sem]
 refine(A4 b).elim (λq=> ?_) (λq=> ?_)
 all_goals subst q
 all_goals simp[go_sem]
 .exact xF (zC rfl) sm
 .refine pR ht ?_
  simp[go_sem]
  refine pR hf ?_
  simp[go_sem]
  exact xF (zC rfl) sm
theorem BH (L:List bJ) (hL:ee L) (s:RS) (hs:cP L s):bK prog 138 [.ptr 0 0] [rB L s] (λr U=>r= .str (yN L s).1/\U= [rB L (yN L s).2]):=by
 have ht:=mG L hL s hs
 have hf:=yd L s 13 (bV L s).place
 have ad:(bV L s).s.length<=maxLen:=by
  unfold bV
  rw[A9,A0 hs.at_]
  exact hL.uQ _ sm
 have hw:=Mg (bV L s).s ad
 have h1:=hs.at_
 have hl:=hL.len
 have ei:IntKind.i64.wrap ((s.at_:Int)+1)=((s.at_+1:Nat):Int):=by grind[bR]
 have ab:tj L s=false->yN L s=([],wL 13 (bV L s).place s):=λh=>by unfold yN;grind
 have aa:tj L s=true->yN L s=((bV L s).s,zJ s):=λh=>by unfold yN;grind
 generalize yN L s=M at ab aa⊢
 unfold tj at ab aa
 obtain⟨t,ae⟩:=eX (bV L s)
 rw[ae]at ht hf hw ab aa
 obtain⟨b,af⟩:=eX (j8 t.s)
 rw[af]at hw ab aa
 have key:((s.err==0&&(t.kind==1&&b))=false/\(s.err !=0)=true)\/((s.err==0&&(t.kind==1&&b))=false/\(s.err !=0)=false/\(t.kind !=1)=true)\/((s.err==0&&(t.kind==1&&b))=b/\(s.err !=0)=false/\(t.kind !=1)=false):=by
  grind
 have no: ∀τ:St,M=([],wL 13 t.place s)->cj (some (.str [])) 1 (λr U=>r= .str M.1/\U= [rB L M.2]) (rB L (wL 13 t.place s)::τ):=λτ h=>by subst h;exact xF (zC rfl) sm
 refine iW 1 func138 ntmps138 results138 λc hc hb=>zL ?_
 simp[go_sem]
 refine pR ht ?_
 simp[go_sem,rB]
 refine key.elim (λ⟨q1,q2⟩=> ?_) λkey=>key.elim (λ⟨q1,q2,q3⟩=> ?_) λ⟨q1,q2,q3⟩=> ?_
 .simp[go_sem,q2]
  refine pR hf ?_
  simp[go_sem]
  exact no _ (ab q1)
 .simp[go_sem,q2,q3]
  refine pR hf ?_
  simp[go_sem]
  exact no _ (ab q1)
 .simp[go_sem,q2,q3]
  refine pC hw ?_
  refine(A4 b).elim (λq=> ?_) (λq=> ?_)
  .have hM:=aa (q1.trans q)
   subst q
   subst hM
   simp[go_sem,ei]
   exact xF (s:=zJ s) (zC rfl) (by trivial)
  .have hM:=ab (q1.trans q)
   subst q
   simp[go_sem]
   refine pR hf ?_
   simp[go_sem]
   exact no _ hM
theorem Ey (L:List bJ) (hL:ee L) (s:RS) (hs:cP L s):bK prog 78 [.ptr 0 0] [rB L s] (λr U=>r= .int .i64 (fR L s).1/\U= [rB L (fR L s).2]):=by
 have ht:=mG L hL s hs
 have hf:=yd L s 13 (bV L s).place
 have h1:=hs.at_
 have hl:=hL.len
 have ei:IntKind.i64.wrap ((s.at_:Int)+1)=((s.at_+1:Nat):Int):=by grind[bR]
 have ab:lL L s=false->fR L s=(0,wL 13 (bV L s).place s):=λh=>by unfold fR;grind
 have aa:lL L s=true->fR L s=((bV L s).n,zJ s):=λh=>by unfold fR;grind
 generalize fR L s=M at ab aa⊢
 unfold lL at ab aa
 obtain⟨t,ad⟩:=eX (bV L s)
 rw[ad]at ht hf ab aa
 have key:((s.err==0&&t.kind==2)=false/\(s.err !=0)=true)\/((s.err==0&&t.kind==2)=false/\(s.err !=0)=false/\(t.kind !=2)=true)\/((s.err==0&&t.kind==2)=true/\(s.err !=0)=false/\(t.kind !=2)=false):=by
  grind
 have no: ∀τ:St,M=(0,wL 13 t.place s)->cj (some (.int .i64 0)) 1 (λr U=>r= .int .i64 M.1/\U= [rB L M.2]) (rB L (wL 13 t.place s)::τ):=λτ h=>by subst h;exact xF (zC rfl) sm
 refine iW 1 func78 ntmps78 results78 λc hc hb=>zL ?_
 simp[go_sem]
 refine pR ht ?_
 simp[go_sem,rB]
 refine key.elim (λ⟨q1,q2⟩=> ?_) λkey=>key.elim (λ⟨q1,q2,q3⟩=> ?_) λ⟨q1,q2,q3⟩=> ?_
 .simp[go_sem,q2]
  refine pR hf ?_
  simp[go_sem]
  exact no _ (ab q1)
 .simp[go_sem,q2,q3]
  refine pR hf ?_
  simp[go_sem]
  exact no _ (ab q1)
 .have hM:=aa q1
  subst hM
  simp[go_sem,q2,q3,ei]
  exact xF (s:=zJ s) (zC rfl) (by trivial)
theorem ye (L:List bJ) (hL:ee L) (s:RS) (hs:cP L s) (ws:List afE) (hw:ws.length<=1000):bK prog 71 [.ptr 0 0,.sl .ro (ws.map λw=> [V.str w])] [rB L s] (λr U=>r= .str (dm L s ws)/\U= [rB L s]):=by
 generalize hM:dm L s ws=M
 have ret: ∀(r:afE) (τ:St),r=M->cj (some (.str r)) 1 (λr U=>r= .str M/\U= [rB L s]) (rB L s::τ):=λr τ h=>by subst h;exact xF (zC rfl) sm
 refine iV 1 func71 ntmps71 results71 λc hc hb=> ?_
 refine zA ?_
 simp[go_sem]
 refine zH (S:=Nat) [0,1,5] (λi=> [.ptr 0 0,.sl .ro (ws.map λw=> [V.str w]),.int .i64 i]) (λ_=> [rB L s]) (λi=>ws.length - i) (λi=>i<=ws.length/\dm L s (ws.drop i)=M) hc hb 0 (by grind) ?_ ?_
 .exact ca 1 (by rfl) rfl (by rfl) om (zD (by rfl) rfl)
 rintro i ⟨hi,hinv⟩
 by_cases q:i<ws.length
 rotate_left
 .rw[A8 om]at hinv
  refine zA ?_
  simp[go_sem,q]
  exact ret _ _ hinv
 have ei:=zR q om
 obtain⟨w,hx⟩:=eX (ws[i])
 rw[A2 q,hx,dm]at hinv
 have aa:=iM L hL s hs w
 obtain⟨b,ab⟩:=eX (cC L w s)
 rw[ab]at aa hinv
 refine zA ?_
 simp[go_sem,q,hx]
 refine pR aa ?_
 simp[go_sem]
 refine zS (λw1=> ?_) (λw1=> ?_)
 .rw[afb w1]at hinv
  simp[go_sem,q,hx]
  exact ret _ _ hinv
 .rw[afa (by grind)]at hinv
  simp[go_sem,ei]
  exact zG (i+1) ⟨om,(by grind),ca 1 rfl rfl (by rfl) om (zD (by rfl) rfl)⟩
theorem BI (L:List bJ) (hL:ee L) (s:RS) (hs:cP L s) (ad:s.bS<=1000):bK prog 334 [.ptr 0 0] [rB L s] (λr U=>r= .bool ((yD L s).err==0)/\U= [rB L (yD L s)]):=by
 have ho:=hs.bS
 have ht:=mG L hL {s with bS:=s.bS+1} ⟨hs.at_,by grind⟩
 have e0:bV L {s with bS:=s.bS+1}=bV L s:=rfl
 rw[e0]at ht
 have hf:=yd L {s with bS:=s.bS+1} 3 (bV L s).place
 have ei:IntKind.i64.wrap (s.bS+1)=s.bS+1:=by grind[bR]
 refine iW 1 func334 ntmps334 results334 λc hc hb=>zL ?_
 simp[go_sem,rB,ei]
 by_cases q1:s.err=0
 .have aa:(s.err==0)=true:=by grind
  by_cases q2:s.bS+1>200
  .have ab:decide (200<s.bS+1)=true:=(by grind)
   have hS:yD L s=wL 3 (bV L s).place {s with bS:=s.bS+1}:=by simp_all[yD,wL]
   rw[hS]
   simp[go_sem,aa,ab]
   refine pR ht ?_
   simp[go_sem]
   refine pR hf ?_
   unfold wL
   rw[afb q1]
   simp[go_sem,rB]
   exact xF (L:=L) (s:={s with bS:=s.bS+1,err:=3,place:=(bV L s).place}) (zC rfl) (by trivial)
  .have ab:decide (200<s.bS+1)=false:=(by grind)
   have hS:yD L s={s with bS:=s.bS+1}:=by simp_all[yD]
   rw[hS]
   simp[go_sem,aa,ab]
   exact xF (L:=L) (s:={s with bS:=s.bS+1}) (zC rfl) (by trivial)
 .have aa:(s.err==0)=false:=by grind
  have hS:yD L s={s with bS:=s.bS+1}:=by simp_all[yD]
  rw[hS]
  simp[go_sem,aa]
  exact xF (L:=L) (s:={s with bS:=s.bS+1}) (zC rfl) (by trivial)
theorem QF:Pure prog 336 [] (.sl .ro [[.sl .ro [[.str [79,82]]]],[.sl .ro [[.str [65,78,68]]]]]):=by
 refine iW 0 func336 ntmps336 results336 λc hc hb=>zL ?_
 simp[go_sem]
 exact yL zK sm
mutual
def gF:bH->Nat
 | .mk _ _ _ args=>wH args+1
def wH:List bH->Nat
 | []=>0
 |e::l=>max (gF e) (wH l)
end
variable {e:bH}{w:afE}{o:Int}{τ:St}{a:List bH}
theorem tm (e:bH):gF e=wH e.args+1:=by cases e;rfl
theorem BJ: ∀(l:List bH) (e:bH),e∈l->gF e<=wH l
 | [],_,h=>by grind
 |x::l,e,h=>by
  rw[wH]
  rcases Ae.1 h with rfl|h
  .omega
  .have:=BJ l e h;omega
inductive eU:bH->Prop
 |mk (e:bH) (h:e.args.length<=1000000) (ha: ∀x∈e.args,eU x):eU e
theorem eU.len (h:eU e):e.args.length<=1000000:=by cases h;omega
theorem eU.sub (h:eU e): ∀x∈e.args,eU x:=by cases h;omega
def maxD (l:List bH) (d:Nat):Nat:=l.foldl (λd e=>max d (gF e)) d
theorem QG: ∀(l:List bH) (d:Nat),maxD l d=max d (wH l)
 | [],d=>by grind[maxD,wH]
 |e::l,d=>by
  have:=QG l (max d (gF e))
  unfold maxD at this⊢
  rw[B8,this,wH]
  omega
theorem QH: ∀(n:Nat) (e:bH),gF e<=n->n<=1000000->eU e->Pure prog 356 [.agg e.row] (.int .i64 (gF e:Int))
 |0,e,h,_,_=>by grind[tm]
 |n+1,e,h,hn,hw=>by
  have ih:=QH n
  have ae:=tm e
  obtain⟨args,aa⟩:=eX e.args
  have hlen:=hw.len
  have ab:=hw.sub
  rw[aa]at ae hlen ab
  obtain⟨D,hD⟩:=eX (gF e)
  rw[hD]at ae h⊢
  refine iV 0 func356 ntmps356 results356 λc hc hb=> ?_
  refine zA ?_
  simp[go_sem]
  refine zH (S:=Nat×Nat) [1,3,4] (λu=> [.ptr 0 0,.int .i64 (u.2:Int),.int .i64 (u.1:Int)]) (λ_=> [.box e.row]) (λu=>args.length - u.1) (λu=>u.1<=args.length/\maxD (args.drop u.1) u.2=wH args/\u.2<=n) hc hb (0,0) (by simp[QG]) ?_ ?_
  .exact ca 1 sg rfl (by simp[bP,cK,cG,bH.bN]) om (zD (by rfl) rfl)
  rintro⟨i,d⟩ ⟨hi,hinv,ai⟩
  simp only at hi hinv ai
  by_cases q:i<args.length
  rotate_left
  .rw[A8 om]at hinv
   have ak:d=wH args:=hinv
   have ei:IntKind.i64.wrap ((d:Int)+1)=(D:Int):=by grind[bR]
   refine zA ?_
   simp[go_sem,q,aa,ei]
   exact yL (zC rfl) sm
  have ei:=zR q om
  obtain⟨x,hx⟩:=eX (args[i])
  have af:x∈args:=(by grind)
  have aj:=BJ args x af
  rw[A2 q,hx]at hinv
  have ag:=ih x om om (ab x af)
  have ad:maxD (args.drop (i+1)) (max d (gF x))=wH args:=hinv
  obtain⟨dx,ah⟩:=eX (gF x)
  rw[ah]at ag ad aj
  refine zA ?_
  simp[go_sem,q,aa,hx]
  refine zM ag cB (zN sg (by rw[bH.bN];rfl)) rfl ?_
  simp[go_sem,ei]
  refine zG (i+1,max d dx) ⟨om,(by grind), ?_⟩
  refine ca 1 (by simp[go_sem,aa]) rfl (by simp[bP,cK,cG,bH.bN]) om (zD ?_ rfl)
  simp[go_sem]
  omega
abbrev PR:=bH×RS
def dh:bH:= .mk 0 [] ⟨0,0,[]⟩ []
def pI (w:afE) (args:List bH):bH:= .mk 3 w ⟨0,0,[]⟩ args
def jK (v:bG):bH:= .mk 1 [] v []
def uR (w:afE):bH:= .mk 2 w ⟨0,0,[]⟩ []
def kB (place:Int) (w:afE) (args:List bH) (s:RS):RS:=if s.err=0/\16<gF (pI w args)then wL 3 place s else s
def gx (place:Int) (w:afE) (args:List bH) (s:RS):PR:=(pI w args,kB place w args s)
def jm (L:List bJ) (k:RS->PR) (s:RS):PR:=if(yD L s).err=0 then((k (yD L s)).1,cW (k (yD L s)).2)else(dh,cW (yD L s))
def dJ (L:List bJ) (ws:List afE) (sub:RS->PR):Nat->PR->PR
 |0,x=>x
 |n+1,x=>if dm L x.2 ws= []then x else dJ L ws sub n (gx (bV L x.2).place (dm L x.2 ws) [x.1,(sub (zJ x.2)).1] (sub (zJ x.2)).2)
def pJ:afE:= [79,82]
def jn:afE:= [65,78,68]
def iq:afE:= [78,79,84]
def Ez:afE:= [73,83]
def lM:afE:= [78,85,76,76]
def I0:afE:= [73,83,78,85,76,76]
def I4:afE:= [78,79,84,78,85,76,76]
def eO:List afE:= [[61],[60,62],[60],[60,61],[62],[62,61]]
def nV:List afE:= [[43],[45]]
def nW:List afE:= [[42],[47],[37]]
def j9 (L:List bJ) (rn rc:RS->PR) (s:RS):PR:=if cC L iq s=true then gx (bV L s).place iq [(rn (zJ s)).1] (rn (zJ s)).2 else rc s
def ka (L:List bJ) (sub:RS->PR) (x:PR):PR:=
 if cC L Ez x.2=true then
  if cC L iq (zJ x.2)=true then gx (bV L x.2).place I4 [x.1] (zV L lM (zJ (zJ x.2)))else gx (bV L x.2).place I0 [x.1] (zV L lM (zJ x.2))
 else if dm L x.2 eO= []then x else gx (bV L x.2).place (dm L x.2 eO) [x.1,(sub (zJ x.2)).1] (sub (zJ x.2)).2
def oO (L:List bJ) (un ex:RS->PR) (s:RS):PR:=
 if cC L [45] s=true then gx (bV L s).place [78,69,71] [(un (zJ s)).1] (un (zJ s)).2
 else if cC L [40] s=true then((ex (zJ s)).1,zV L [41] (ex (zJ s)).2)
 else if cC L [84,82,85,69] s=true then(jK ⟨1,1,[]⟩,zJ s)
 else if cC L [70,65,76,83,69] s=true then(jK ⟨1,0,[]⟩,zJ s)
 else if cC L lM s=true then(jK ⟨0,0,[]⟩,zJ s)
 else if(bV L s).kind=2 then(jK ⟨2,(bV L s).n,[]⟩,zJ s)
 else if(bV L s).kind=3 then(jK ⟨3,0,(bV L s).s⟩,zJ s)
 else(uR (yN L s).1,(yN L s).2)
def jx (L:List bJ) (rec:Nat->RS->PR):Nat->RS->PR
 |0,s=>dJ L [pJ] (rec 1) L.length (rec 1 s)
 |1,s=>dJ L [jn] (rec 2) L.length (rec 2 s)
 |2,s=>j9 L (rec 2) (rec 3) s
 |3,s=>ka L (rec 4) (rec 4 s)
 |4,s=>dJ L nV (rec 5) L.length (rec 5 s)
 |5,s=>dJ L nW (rec 6) L.length (rec 6 s)
 |_,s=>oO L (rec 6) (rec 0) s
def pF (L:List bJ):Nat->Nat->RS->PR
 |0,_,s=>(dh,s)
 |f+1,w,s=>jm L (jx L (pF L f) w) s
structure PI (L:List bJ) (s:RS) (x:PR):Prop where
 cd:cP L x.2
 bS:x.2.bS=s.bS
 up:s.at_<=x.2.at_
 err:x.2.err=0->s.err=0/\gF x.1<=16
 wide:eU x.1
theorem BK {e p:Int} {s:RS} (he:e≠0):(wL e p s).err≠0:=by unfold wL;split<;>simp_all
theorem Gp (e p:Int) (s:RS):(wL e p s).at_=s.at_:=by unfold wL;split<;>rfl
theorem Gq (e p:Int) (s:RS):(wL e p s).bS=s.bS:=by unfold wL;split<;>rfl
theorem Mh {L:List bJ} {s:RS} (h:cP L s) (e p:Int):cP L (wL e p s):=⟨by rw[Gp];exact h.at_,by rw[Gq];exact h.bS⟩
theorem BL (p:Int) (w:afE) (a:List bH) (s:RS):(kB p w a s).at_=s.at_:=by unfold kB;split;exact Gp _ _ _;rfl
theorem I5 (p:Int) (w:afE) (a:List bH) (s:RS):(kB p w a s).bS=s.bS:=by unfold kB;split;exact Gq _ _ _;rfl
theorem Mi {p:Int} {s:RS} (h:(kB p w a s).err=0):s.err=0/\gF (pI w a)<=16:=by
 unfold kB at h
 split at h
 .exact absurd h (BK dc)
 .rename_i hc
  refine⟨h, ?_⟩
  by_cases q:16<gF (pI w a)
  .exact absurd ⟨h,q⟩ hc
  .omega
theorem Yy {L:List bJ} {s:RS} (h:cP L s) (p:Int) (w:afE) (a:List bH):cP L (kB p w a s):=⟨by rw[BL];exact h.at_,by rw[I5];exact h.bS⟩
theorem QI (p:Int) (w:afE) (a:List bH) (s:RS):kB p w a (cW s)=cW (kB p w a s):=by
 unfold kB wL cW
 by_cases q:s.err=0/\16<gF (pI w a)
 .rw[afb q,afb q,afb q.1,afb q.1]
 .rw[afa q,afa q]
theorem Yz (w:afE) (a:List bH):gF (pI w a)=wH a+1:=tm _
theorem QJ (h:a.length<=1000000) (ha: ∀x∈a,eU x):eU (pI w a):= .mk _ h ha
theorem QK (h:e.args= []):eU e:= .mk _ (by simp[h]) (by simp[h])
def RR (L:List bJ) (x:PR):V->St->Prop:=λr U=>r= .agg x.1.row/\U= [rB L x.2]
theorem wG {L:List bJ} {s:RS} {x:PR} (h:x=(e,s)):cj (some (.agg [.int .i64 e.kind,.str e.s,.int .i64 e.v.kind,.int .i64 e.v.n,.str e.v.s,.sl .ro (e.args.map bH.row)])) 1 (RR L x) (rB L s::τ):=by
 subst h
 exact xF (zC rfl) ⟨by rw[bH.bN],rfl⟩
theorem QL (e:bH):gR (.agg e.row)=true:=by rw[bH.bN];rfl
theorem jy {P:Program} {c:Ctx} {f:FuncId} {bU args bZ:List V} {L:List bJ} {s:RS} {x:PR} {KV:V->St->Prop} (hc:bK P f bZ [rB L s] (RR L x)) (hb:wE P f)
  (aa:bL (cF (cz [0] (τ.length+1))) bZ (args++bU)) (hk:KV (.agg x.1.row) (rB L x.2::τ)):iZ P c (.fn f bU) args (rB L s::τ) KV fx:=
 Gn hc hb aa (QL _) hk
theorem qB {P:Program} {c:Ctx} {n:Nat} {f:FuncId} {bU args bZ:List V} {L:List bJ} {s:RS} {x:PR} {KV:V->St->Prop} (hc:bK P f bZ [rB L s] (RR L x)) (hb:wE P f)
  (aa:bL (cF (cz [0] (τ.length+1))) bZ (args++bU)) (hk:KV (.agg x.1.row) (rB L x.2::τ)):pz P c ⟨1,n,[],none⟩ 3 (.fn f bU) args (rB L s::τ) KV fx:=
 rT hc hb aa (QL _) hk
theorem lN (L:List bJ) (s:RS) (p:Int) (w:afE) (a:List bH) (hl:a.length<=1000) (hw: ∀x∈a,eU x) (hd:s.err=0->wH a<=1000):
  bK prog 337 [.ptr 0 0,.int .i64 p,.str w,.sl .ro (a.map bH.row)] [rB L s] (RR L (gx p w a s)):=by
 obtain⟨D,hD⟩:=eX (gF (pI w a))
 have ad:=Yz w a
 rw[hD]at ad
 have hf:=yd L s 3 p
 have hS:gx p w a s=(pI w a,if s.err=0/\16<D then wL 3 p s else s):=by unfold gx kB;rw[hD]
 generalize gx p w a s=M at hS⊢
 refine iW 1 func337 ntmps337 results337 λc hc hb=>zL ?_
 by_cases q1:s.err=0
 .have aa:(s.err==0)=true:=sU q1
  have ae:=QH 1001 (pI w a) (by rw[hD,ad];have:=hd q1;omega) om (QJ om hw)
  rw[hD]at ae
  simp[go_sem,rB,aa]
  refine zM ae cB (zN (by rw[bH.bN];rfl) rfl) rfl ?_
  simp[go_sem]
  by_cases q2:16<D
  .have ab:decide ((16:Int)<(D:Int))=true:=afd om
   rw[afb ⟨q1,q2⟩]at hS
   simp[go_sem,ab]
   refine pR hf ?_
   simp[go_sem]
   exact wG hS
  .have ab:decide ((16:Int)<(D:Int))=false:=afc om
   rw[afa (λh=>q2 h.2)]at hS
   simp[go_sem,ab]
   exact wG hS
 .have aa:(s.err==0)=false:=sU q1
  rw[afa (λh=>q1 h.1)]at hS
  simp[go_sem,rB,aa]
  exact wG hS
variable {L:List bJ}
theorem np (s:RS):(zJ s).at_=s.at_+1:=rfl
theorem BM {s:RS}: ∀{ws:List afE},dm L s ws≠ []->cC L (dm L s ws) s=true
 | [],h=>absurd rfl h
 |w::ws,h=>by
  unfold dm at h⊢
  split
  .assumption
  .rename_i hn
   rw[afa hn]at h
   exact BM h
theorem cP.next (hL:ee L) {s:RS} (h:cP L s) (hi:cC L w s):cP L (zJ s):=hL.next h (Yx hi).1
theorem tq (hL:ee L) {s:RS} (h:cP L s):cP L (zV L w s):=by
 unfold zV
 split
 .exact h.next hL ‹_›
 .exact Mh h _ _
theorem BN (w:afE) (s:RS):s.at_<=(zV L w s).at_:=by
 unfold zV
 split
 .simp[zJ]
 .rw[Gp];exact A3 _
theorem BO (w:afE) (s:RS):(zV L w s).bS=s.bS:=by
 unfold zV
 split
 .rfl
 .exact Gq _ _ _
theorem uS {s:RS} (h:(zV L w s).err=0):s.err=0/\cC L w s=true:=by
 unfold zV at h
 split at h
 .exact⟨h,‹_›⟩
 .exact absurd h (BK dc)
theorem QM (hL:ee L) {s:RS} (h:cP L s):cP L (yN L s).2:=by
 unfold yN
 split
 .rename_i hb
  unfold tj at hb
  simp only[A6,afh]at hb
  exact hL.next h (by rw[hb.2.1];decide)
 .exact Mh h _ _
theorem QN (s:RS):s.at_<=(yN L s).2.at_:=by
 unfold yN
 split
 .simp[zJ]
 .simp only[Gp];exact A3 _
theorem QO (s:RS):(yN L s).2.bS=s.bS:=by
 unfold yN
 split
 .rfl
 .exact Gq _ _ _
theorem Mj {s:RS} (h:(yN L s).2.err=0):s.err=0/\tj L s=true:=by
 unfold yN at h
 split at h
 .exact⟨h,‹_›⟩
 .exact absurd h (BK dc)
theorem YA (h:e.args= []):gF e=1:=by rw[tm,h];rfl
theorem tu {s0 s:RS} (p:Int) (w:afE) (h1:cP L s) (h2:s.bS=s0.bS) (h3:s0.at_<=s.at_) (h4:s.err=0->s0.err=0) (h5:a.length<=1000000) (h6: ∀x∈a,eU x):PI L s0 (gx p w a s):=
 ⟨Yy h1 _ _ _,by show(kB p w a s).bS=_;rw[I5,h2],by show _<=(kB p w a s).at_;rw[BL];exact h3,λh=>⟨h4 (Mi h).1,(Mi h).2⟩,QJ h5 h6⟩
theorem EA (hL:ee L) {o:Int} {sub:RS->PR} (aa: ∀s,cP L s->s.bS=o->PI L s (sub s)) (ws:List afE) {s0:RS}: ∀(n:Nat) (x:PR),PI L s0 x->s0.bS=o->PI L s0 (dJ L ws sub n x)
 |0,x,h,_=>h
 |n+1,x,h,ho=>by
  unfold dJ
  split
  .exact h
  rename_i ab
  have hi:=BM ab
  have hx:=h.bS
  have hy:=aa (zJ x.2) (h.cd.next hL hi) (by show x.2.bS=o;rw[hx,ho])
  refine EA hL aa ws n _ (tu _ _ hy.cd ?_ ?_ (λhe=>(h.err ?_).1) sm ?_) ho
  .rw[hy.bS];exact hx
  .have h1:=hy.up;have h2:=h.up;rw[np]at h1;omega
  .exact(hy.err he).1
  .intro e he
   simp only[Ae,B4,afn]at he
   rcases he with rfl|rfl
   .exact h.wide
   .exact hy.wide
theorem YB (hL:ee L) {rn rc:RS->PR} (h1: ∀s,cP L s->s.bS=o->PI L s (rn s)) (h2: ∀s,cP L s->s.bS=o->PI L s (rc s)) (s:RS) (hs:cP L s) (ho:s.bS=o):PI L s (j9 L rn rc s):=by
 unfold j9
 split
 .rename_i hi
  have hy:=h1 (zJ s) (hs.next hL hi) ho
  refine tu _ _ hy.cd hy.bS ?_ (λhe=>(hy.err he).1) sm (λe he=> ?_)
  .have h1:=hy.up;rw[np]at h1;omega
  .simp only[Ae,B4,afn]at he;subst he;exact hy.wide
 .exact h2 s hs ho
theorem YC (hL:ee L) {sub:RS->PR} (aa: ∀s,cP L s->s.bS=o->PI L s (sub s)) (s:RS) (ho:s.bS=o) (x:PR) (h:PI L s x):PI L s (ka L sub x):=by
 have hx:=h.bS
 have hu:=h.up
 have w1: ∀e∈ [x.1],eU e:=λe he=>by simp only[Ae,B4,afn]at he;subst he;exact h.wide
 unfold ka
 split
 .rename_i hi
  have hn:=h.cd.next hL hi
  split
  .rename_i ab
   have ad:=hn.next hL ab
   refine tu _ _ (tq hL ad) ?_ ?_ (λhe=>(h.err ?_).1) sm w1
   .rw[BO];exact hx
   .have:=BN (L:=L) lM (zJ (zJ x.2));simp only[zJ]at this⊢;omega
   .exact(uS he).1
  .refine tu _ _ (tq hL hn) ?_ ?_ (λhe=>(h.err ?_).1) sm w1
   .rw[BO];exact hx
   .have:=BN (L:=L) lM (zJ x.2);simp only[zJ]at this⊢;omega
   .exact(uS he).1
 .split
  .exact h
  rename_i ae
  have hi:=BM ae
  have hy:=aa (zJ x.2) (h.cd.next hL hi) (by show x.2.bS=o;rw[hx,ho])
  refine tu _ _ hy.cd ?_ ?_ (λhe=>(h.err ?_).1) sm ?_
  .rw[hy.bS];exact hx
  .have h1:=hy.up;rw[np]at h1;omega
  .exact(hy.err he).1
  .intro e he
   simp only[Ae,B4,afn]at he
   rcases he with rfl|rfl
   .exact h.wide
   .exact hy.wide
theorem BP {s:RS} (ha:e.args= []) {s2:RS} (h1:cP L s2) (h2:s2.bS=s.bS) (h3:s.at_<=s2.at_) (h4:s2.err=0->s.err=0):PI L s (e,s2):=
 ⟨h1,h2,h3,λh=>⟨h4 h,by simp only;rw[YA ha];decide⟩,QK ha⟩
theorem QP (hL:ee L) {un ex:RS->PR} (h1: ∀s,cP L s->s.bS=o->PI L s (un s)) (h2: ∀s,cP L s->s.bS=o->PI L s (ex s)) (s:RS) (hs:cP L s) (ho:s.bS=o):PI L s (oO L un ex s):=by
 unfold oO
 split
 .rename_i hi
  have hy:=h1 (zJ s) (hs.next hL hi) ho
  refine tu _ _ hy.cd hy.bS ?_ (λhe=>(hy.err he).1) sm (λe he=> ?_)
  .have h1:=hy.up;rw[np]at h1;omega
  .simp only[Ae,B4,afn]at he;subst he;exact hy.wide
 split
 .rename_i hi
  have hy:=h2 (zJ s) (hs.next hL hi) ho
  refine⟨tq hL hy.cd, ?_, ?_,λhe=> ?_,hy.wide⟩
  .rw[BO];exact hy.bS
  .have h1:=hy.up;have h2:=BN (L:=L) [41] (ex (zJ s)).2;rw[np]at h1;show _<=(zV L [41] (ex (zJ s)).2).at_;omega
  .have:=hy.err (uS he).1;exact this
 split
 .exact BP rfl (hs.next hL ‹_›) rfl (by simp[zJ]) id
 split
 .exact BP rfl (hs.next hL ‹_›) rfl (by simp[zJ]) id
 split
 .exact BP rfl (hs.next hL ‹_›) rfl (by simp[zJ]) id
 split
 .exact BP rfl (hL.next hs om) rfl (by simp[zJ]) id
 split
 .exact BP rfl (hL.next hs om) rfl (by simp[zJ]) id
 .exact BP rfl (QM hL hs) (QO s) (QN s) (λh=>(Mj h).1)
theorem YD (hL:ee L) {rec:Nat->RS->PR} (h: ∀w s,cP L s->s.bS=o->PI L s (rec w s)): ∀(w:Nat) (s:RS),cP L s->s.bS=o->PI L s (jx L rec w s)
 |0,s,hs,ho=>EA hL (h 1) _ _ _ (h 1 s hs ho) ho
 |1,s,hs,ho=>EA hL (h 2) _ _ _ (h 2 s hs ho) ho
 |2,s,hs,ho=>YB hL (h 2) (h 3) s hs ho
 |3,s,hs,ho=>YC hL (h 4) s ho _ (h 4 s hs ho)
 |4,s,hs,ho=>EA hL (h 5) _ _ _ (h 5 s hs ho) ho
 |5,s,hs,ho=>EA hL (h 6) _ _ _ (h 6 s hs ho) ho
 |_w+6,s,hs,ho=>QP hL (h 6) (h 0) s hs ho
theorem I6 (s:RS):(yD L s).at_=s.at_:=by unfold yD;split<;>rfl
theorem pK (s:RS):(yD L s).bS=s.bS+1:=by unfold yD;split<;>rfl
theorem tw {s:RS} (h:(yD L s).err=0):s.err=0/\s.bS+1<=200:=by
 unfold yD at h
 split at h
 .simp at h
 .rename_i hc
  refine⟨h, ?_⟩
  by_cases q:s.bS+1>200
  .exact absurd ⟨h,q⟩ hc
  .omega
theorem tz {s:RS} (hs:cP L s) (h:s.bS<=200):cP L (yD L s):=⟨by rw[I6];exact hs.at_,by rw[pK];have:=hs.bS;omega⟩
theorem QQ {s:RS} (hs:cP L s) (h:1<=s.bS):cP L (cW s):=⟨hs.at_,by have:=hs.bS;simp only[cW];omega⟩
theorem YE {k:RS->PR} (s:RS) (hs:cP L s) (h2:s.bS<=200) (hk:(yD L s).err=0->PI L (yD L s) (k (yD L s))):PI L s (jm L k s):=by
 have hr:=tz hs h2
 have ho:=hs.bS
 unfold jm
 split
 .rename_i he
  have hy:=hk he
  have h1:=hy.bS
  have h3:=hy.up
  rw[pK]at h1
  rw[I6]at h3
  refine⟨QQ hy.cd om, ?_,h3,λh=>⟨(tw he).1,(hy.err h).2⟩,hy.wide⟩
  simp only[cW]
  omega
 .rename_i he
  refine BP rfl (QQ hr (by rw[pK];omega)) ?_ ?_ (λh=>absurd h he)
  .simp only[cW,pK];omega
  .simp only[cW,I6];exact A3 _
theorem I7 (hL:ee L): ∀(f:Nat) (w:Nat) (s:RS),cP L s->s.bS<=200->201<=(f:Int)+s.bS->PI L s (pF L f w s)
 |0,w,s,hs,h2,hf=>by omega
 |f+1,w,s,hs,h2,hf=>by
  unfold pF
  refine YE s hs h2 (λhe=> ?_)
  have h3:=(tw he).2
  exact YD hL (o:=s.bS+1) (λw t ht ho=>I7 hL f w t ht om (by push_cast at hf;omega)) w _ (tz hs h2) (pK s)
structure PW (L:List bJ) (rec:Nat->RS->PR) (o:Int):Prop where
 ok: ∀w s,cP L s->s.bS=o->PI L s (rec w s)
 chain: ∀k:Nat,k<=1-> ∀s,cP L s->s.bS=o->bK prog 267 [.ptr 0 0,.int .i64 (k:Int)] [rB L s] (RR L (rec k s))
 not: ∀s,cP L s->s.bS=o->bK prog 355 [.ptr 0 0] [rB L s] (RR L (rec 2 s))
 cmp: ∀s,cP L s->s.bS=o->bK prog 364 [.ptr 0 0] [rB L s] (RR L (rec 3 s))
 sum: ∀s,cP L s->s.bS=o->bK prog 369 [.ptr 0 0] [rB L s] (RR L (rec 4 s))
 prod: ∀s,cP L s->s.bS=o->bK prog 372 [.ptr 0 0] [rB L s] (RR L (rec 5 s))
 unary: ∀s,cP L s->s.bS=o->bK prog 373 [.ptr 0 0] [rB L s] (RR L (rec 6 s))
theorem yf {g:Tag} {L:List bJ} {s:RS} {x:PR} (h:x=(e,s)):cj (some (.agg [.int .i64 e.kind,.str e.s,.int .i64 e.v.kind,.int .i64 e.v.n,.str e.v.s,.sl g (e.args.map bH.row)])) 1 (RR L x) (rB L s::τ):=by
 subst h
 refine xF (r:= .agg [.int .i64 e.kind,.str e.s,.int .i64 e.v.kind,.int .i64 e.v.n,.str e.v.s,.sl .ro (e.args.map bH.row)]) (xx ⟨zU rfl,zU rfl,zU rfl,zU rfl,zU rfl,yX,tV⟩) ⟨by rw[bH.bN],rfl⟩
def zB:Ob:= .box [.int .i64 0,.str [],.int .i64 0,.int .i64 0,.str [],.sl .full []]
theorem BQ (h0:0<=o) (h1:o<=1000):IntKind.i64.wrap (o - 1)=o - 1:=bR om om
theorem YF (L:List bJ) (hL:ee L) (rec:Nat->RS->PR) (s:RS) (hs:cP L s) (h2:s.bS<=200) (aj:s.bS+1<=200->PW L rec (s.bS+1)):
  bK prog 369 [.ptr 0 0] [rB L s] (RR L (jm L (jx L rec 4) s)):=by
 have hr:=BI L hL s hs om
 have aa:=tz hs h2
 have ab:=pK (L:=L) s
 have ak:=tw (L:=L) (s:=s)
 have ho:=hs.bS
 have hM:jm L (jx L rec 4) s=if(yD L s).err=0 then((dJ L nV (rec 5) L.length (rec 5 (yD L s))).1,cW (dJ L nV (rec 5) L.length (rec 5 (yD L s))).2)else(dh,cW (yD L s)):=rfl
 generalize jm L (jx L rec 4) s=M at hM⊢
 generalize yD L s=s1 at hr aa ab ak hM
 have eo:=BQ (o:=s1.bS) om om
 refine iV 1 func369 ntmps369 results369 λc hc hb=> ?_
 by_cases q1:s1.err=0
 rotate_left
 .have af:(s1.err==0)=false:=sU q1
  rw[afa q1]at hM
  rw[af]at hr
  refine zA ?_
  simp[go_sem]
  refine pR hr ?_
  simp[go_sem,rB,eo]
  exact yf (e:=dh) (s:=cW s1) hM
 have af:(s1.err==0)=true:=sU q1
 rw[afb q1]at hM
 rw[af]at hr
 have hP:=aj (ak q1).2
 have ag:=hP.ok 5 s1 aa ab
 have al:=hP.prod s1 aa ab
 generalize rec 5 s1=x0 at ag al hM
 have ae:=ye L hL x0.2 ag.cd nV dc
 obtain⟨N,hN⟩:=eX L.length
 rw[hN]at hM
 refine zA ?_
 simp[go_sem]
 refine pR hr ?_
 simp[go_sem]
 refine jy al cB fb ?_
 simp[go_sem]
 refine pR ae ?_
 simp[go_sem]
 refine zH (S:=PR) [0,2,3,4] (λx=> [.ptr 0 0,.ptr 1 0,.ptr 2 0,.str (dm L x.2 nV)]) (λx=> [rB L x.2,zB,.box x.1.row]) (λx=>N - x.2.at_) (λx=>PI L s1 x/\ ∃n,N<=n+x.2.at_/\((dJ L nV (rec 5) n x).1,cW (dJ L nV (rec 5) n x).2)=M) hc hb x0 ⟨ag,N,om,hM.symm⟩ ?_ ?_
 .exact ca 3 (by simp[go_sem,zB]) rfl (by simp[rB,zB,bP,cK,cG,bH.bN]) dc (zD sg rfl)
 rintro x ⟨hx,n,hn,hinv⟩
 have ax:=hx.cd.at_
 have ae:=ye L hL x.2 hx.cd nV dc
 have an:=mG L hL x.2 hx.cd
 have ad:=hx.bS
 by_cases q:dm L x.2 nV= []
 .have au:M=(x.1,cW x.2):=by
   cases n with
   |zero=>exact hinv.symm
   |succ n=>rw[dJ,afb q]at hinv;exact hinv.symm
  have av:IntKind.i64.wrap (x.2.bS - 1)=x.2.bS - 1:=by rw[ad];exact eo
  refine zA ?_
  simp[go_sem,q,rB,av]
  exact wG (s:=cW x.2) au
 obtain⟨n,rfl⟩: ∃m,n=m+1:=⟨n - 1,om⟩
 rw[dJ,afa q]at hinv
 have hi:=BM q
 have ao:=hx.cd.next hL hi
 have hy:=hP.ok 5 (zJ x.2) ao (by show x.2.bS=_;rw[ad,ab])
 have aq:=hP.prod (zJ x.2) ao (by show x.2.bS=_;rw[ad,ab])
 generalize rec 5 (zJ x.2)=y at hy aq hinv
 have aw:=hy.up
 rw[np]at aw
 have hz:PI L s1 (gx (bV L x.2).place (dm L x.2 nV) [x.1,y.1] y.2):=tu _ _ hy.cd (by rw[hy.bS];exact ad) (by have:=hx.up;omega) (λhe=>(hx.err (hy.err he).1).1) sm (λe he=>by
  simp only[Ae,B4,afn]at he
  rcases he with rfl|rfl
  .exact hx.wide
  .exact hy.wide)
 have ah:=lN L y.2 (bV L x.2).place (dm L x.2 nV) [x.1,y.1] sm (λe he=>by
  simp only[Ae,B4,afn]at he
  rcases he with rfl|rfl
  .exact hx.wide
  .exact hy.wide) (λhe=>by
   have h1:=(hy.err he).2
   have h2:=(hx.err (hy.err he).1).2
   simp only[wH]
   omega)
 have ar:(gx (bV L x.2).place (dm L x.2 nV) [x.1,y.1] y.2).2.at_=y.2.at_:=BL _ _ _ _
 generalize gx (bV L x.2).place (dm L x.2 nV) [x.1,y.1] y.2=z at hz ah hinv ar
 have ai:=ye L hL z.2 hz.cd nV dc
 have ay:=hz.cd.at_
 have hl:=hL.len
 have ei:IntKind.i64.wrap ((x.2.at_:Int)+1)=((x.2.at_+1:Nat):Int):=by rw[bR om om];omega
 have q':(dm L x.2 nV).isEmpty=false:=sU q
 refine zA ?_
 simp[go_sem,q']
 refine pR an ?_
 simp[go_sem,rB,ei]
 simp only[Ai,Bk,bH.bN]at ah
 refine oL [(3,1),(5,3),(7,3)] 1 3 sm kR kR ?_
 simp[go_sem]
 refine qB aq cB fb ?_
 simp[go_sem,bH.bN]
 refine qB ah cB (wI ⟨zC rfl,zC rfl,zK,tV⟩) ?_
 simp[go_sem,bH.bN]
 refine pR ai ?_
 simp[go_sem]
 refine zG z ⟨om,⟨hz,n,om,hinv⟩, ?_⟩
 exact ca 3 (by simp[go_sem,rB,zB,bH.bN]) rfl (by simp[zB,bP,cK,cG,bH.bN]) dc (zD sg rfl)
theorem YG (L:List bJ) (hL:ee L) (rec:Nat->RS->PR) (s:RS) (hs:cP L s) (h2:s.bS<=200) (aj:s.bS+1<=200->PW L rec (s.bS+1)):
  bK prog 372 [.ptr 0 0] [rB L s] (RR L (jm L (jx L rec 5) s)):=by
 have hr:=BI L hL s hs om
 have aa:=tz hs h2
 have ab:=pK (L:=L) s
 have ak:=tw (L:=L) (s:=s)
 have ho:=hs.bS
 have hM:jm L (jx L rec 5) s=if(yD L s).err=0 then((dJ L nW (rec 6) L.length (rec 6 (yD L s))).1,cW (dJ L nW (rec 6) L.length (rec 6 (yD L s))).2)else(dh,cW (yD L s)):=rfl
 generalize jm L (jx L rec 5) s=M at hM⊢
 generalize yD L s=s1 at hr aa ab ak hM
 have eo:=BQ (o:=s1.bS) om om
 refine iV 1 func372 ntmps372 results372 λc hc hb=> ?_
 by_cases q1:s1.err=0
 rotate_left
 .have af:(s1.err==0)=false:=sU q1
  rw[afa q1]at hM
  rw[af]at hr
  refine zA ?_
  simp[go_sem]
  refine pR hr ?_
  simp[go_sem,rB,eo]
  exact yf (e:=dh) (s:=cW s1) hM
 have af:(s1.err==0)=true:=sU q1
 rw[afb q1]at hM
 rw[af]at hr
 have hP:=aj (ak q1).2
 have ag:=hP.ok 6 s1 aa ab
 have al:=hP.unary s1 aa ab
 generalize rec 6 s1=x0 at ag al hM
 have ae:=ye L hL x0.2 ag.cd nW dc
 obtain⟨N,hN⟩:=eX L.length
 rw[hN]at hM
 refine zA ?_
 simp[go_sem]
 refine pR hr ?_
 simp[go_sem]
 refine jy al cB fb ?_
 simp[go_sem]
 refine pR ae ?_
 simp[go_sem]
 refine zH (S:=PR) [0,2,3,4] (λx=> [.ptr 0 0,.ptr 1 0,.ptr 2 0,.str (dm L x.2 nW)]) (λx=> [rB L x.2,zB,.box x.1.row]) (λx=>N - x.2.at_) (λx=>PI L s1 x/\ ∃n,N<=n+x.2.at_/\((dJ L nW (rec 6) n x).1,cW (dJ L nW (rec 6) n x).2)=M) hc hb x0 ⟨ag,N,om,hM.symm⟩ ?_ ?_
 .exact ca 3 (by simp[go_sem,zB]) rfl (by simp[rB,zB,bP,cK,cG,bH.bN]) dc (zD sg rfl)
 rintro x ⟨hx,n,hn,hinv⟩
 have ax:=hx.cd.at_
 have ae:=ye L hL x.2 hx.cd nW dc
 have an:=mG L hL x.2 hx.cd
 have ad:=hx.bS
 by_cases q:dm L x.2 nW= []
 .have au:M=(x.1,cW x.2):=by
   cases n with
   |zero=>exact hinv.symm
   |succ n=>rw[dJ,afb q]at hinv;exact hinv.symm
  have av:IntKind.i64.wrap (x.2.bS - 1)=x.2.bS - 1:=by rw[ad];exact eo
  refine zA ?_
  simp[go_sem,q,rB,av]
  exact wG (s:=cW x.2) au
 obtain⟨n,rfl⟩: ∃m,n=m+1:=⟨n - 1,om⟩
 rw[dJ,afa q]at hinv
 have hi:=BM q
 have ao:=hx.cd.next hL hi
 have hy:=hP.ok 6 (zJ x.2) ao (by show x.2.bS=_;rw[ad,ab])
 have aq:=hP.unary (zJ x.2) ao (by show x.2.bS=_;rw[ad,ab])
 generalize rec 6 (zJ x.2)=y at hy aq hinv
 have aw:=hy.up
 rw[np]at aw
 have hz:PI L s1 (gx (bV L x.2).place (dm L x.2 nW) [x.1,y.1] y.2):=tu _ _ hy.cd (by rw[hy.bS];exact ad) (by have:=hx.up;omega) (λhe=>(hx.err (hy.err he).1).1) sm (λe he=>by
  simp only[Ae,B4,afn]at he
  rcases he with rfl|rfl
  .exact hx.wide
  .exact hy.wide)
 have ah:=lN L y.2 (bV L x.2).place (dm L x.2 nW) [x.1,y.1] sm (λe he=>by
  simp only[Ae,B4,afn]at he
  rcases he with rfl|rfl
  .exact hx.wide
  .exact hy.wide) (λhe=>by
   have h1:=(hy.err he).2
   have h2:=(hx.err (hy.err he).1).2
   simp only[wH]
   omega)
 have ar:(gx (bV L x.2).place (dm L x.2 nW) [x.1,y.1] y.2).2.at_=y.2.at_:=BL _ _ _ _
 generalize gx (bV L x.2).place (dm L x.2 nW) [x.1,y.1] y.2=z at hz ah hinv ar
 have ai:=ye L hL z.2 hz.cd nW dc
 have ay:=hz.cd.at_
 have hl:=hL.len
 have ei:IntKind.i64.wrap ((x.2.at_:Int)+1)=((x.2.at_+1:Nat):Int):=by rw[bR om om];omega
 have q':(dm L x.2 nW).isEmpty=false:=sU q
 refine zA ?_
 simp[go_sem,q']
 refine pR an ?_
 simp[go_sem,rB,ei]
 simp only[Ai,Bk,bH.bN]at ah
 refine oL [(3,1),(5,3),(7,3)] 1 3 sm kR kR ?_
 simp[go_sem]
 refine qB aq cB fb ?_
 simp[go_sem,bH.bN]
 refine qB ah cB (wI ⟨zC rfl,zC rfl,zK,tV⟩) ?_
 simp[go_sem,bH.bN]
 refine pR ai ?_
 simp[go_sem]
 refine zG z ⟨om,⟨hz,n,om,hinv⟩, ?_⟩
 exact ca 3 (by simp[go_sem,rB,zB,bH.bN]) rfl (by simp[zB,bP,cK,cG,bH.bN]) dc (zD sg rfl)
theorem QR (L:List bJ) (rec:Nat->RS->PR) (o:Int) (hP:PW L rec o) (s:RS) (hs:cP L s) (ho:s.bS=o):bK prog 335 [.ptr 0 0,.int .i64 0] [rB L s] (RR L (rec 1 s)):=by
 have aa:=hP.chain 1 (A3 _) s hs ho
 generalize rec 1 s=x at aa⊢
 refine iW 1 func335 ntmps335 results335 λc hc hb=>zL ?_
 simp[go_sem]
 refine jy aa cB (wI ⟨zC rfl,tV⟩) ?_
 simp[go_sem,bH.bN]
 exact wG rfl
theorem QS (L:List bJ) (rec:Nat->RS->PR) (o:Int) (hP:PW L rec o) (s:RS) (hs:cP L s) (ho:s.bS=o):bK prog 335 [.ptr 0 0,.int .i64 1] [rB L s] (RR L (rec 2 s)):=by
 have aa:=hP.not s hs ho
 generalize rec 2 s=x at aa⊢
 refine iW 1 func335 ntmps335 results335 λc hc hb=>zL ?_
 simp[go_sem]
 refine jy aa cB fb ?_
 simp[go_sem,bH.bN]
 exact wG rfl
theorem QU (L:List bJ) (s:RS) (w:afE) (hw:w≠ []):(dm L s [w]= []↔cC L w s=false)/\(cC L w s=true->dm L s [w]=w):=by
 unfold dm
 cases cC L w s
 .simp[dm]
 .simp[hw]
theorem YH (L:List bJ) (hL:ee L) (rec:Nat->RS->PR) (s:RS) (hs:cP L s) (h2:s.bS<=200) (aj:s.bS+1<=200->PW L rec (s.bS+1)):
  bK prog 267 [.ptr 0 0,.int .i64 0] [rB L s] (RR L (jm L (jx L rec 0) s)):=by
 have hr:=BI L hL s hs om
 have aa:=tz hs h2
 have ab:=pK (L:=L) s
 have ak:=tw (L:=L) (s:=s)
 have ho:=hs.bS
 have hM:jm L (jx L rec 0) s=if(yD L s).err=0 then((dJ L [pJ] (rec 1) L.length (rec 1 (yD L s))).1,cW (dJ L [pJ] (rec 1) L.length (rec 1 (yD L s))).2)else(dh,cW (yD L s)):=rfl
 generalize jm L (jx L rec 0) s=M at hM⊢
 generalize yD L s=s1 at hr aa ab ak hM
 have eo:=BQ (o:=s1.bS) om om
 have ad:=QF
 refine iV 1 func267 ntmps267 results267 λc hc hb=> ?_
 by_cases q1:s1.err=0
 rotate_left
 .have ah:(s1.err==0)=false:=sU q1
  rw[afa q1]at hM
  rw[ah]at hr
  refine zA ?_
  simp[go_sem]
  refine pR hr ?_
  simp[go_sem,rB,eo]
  exact yf (e:=dh) (s:=cW s1) hM
 have ah:(s1.err==0)=true:=sU q1
 rw[afb q1]at hM
 rw[ah]at hr
 have hP:=aj (ak q1).2
 have al:=hP.ok 1 s1 aa ab
 have an:=QR L rec _ hP s1 aa ab
 generalize rec 1 s1=x0 at al an hM
 obtain⟨N,hN⟩:=eX L.length
 rw[hN]at hM
 refine zA ?_
 simp[go_sem]
 refine pR hr ?_
 simp[go_sem]
 refine jy an cB (wI ⟨zC rfl,tV⟩) ?_
 simp[go_sem]
 refine zH (S:=PR) [0,1,4,5] (λx=> [.ptr 0 0,.int .i64 0,.ptr 1 0,.ptr 2 0]) (λx=> [rB L x.2,zB,.box x.1.row]) (λx=>N - x.2.at_) (λx=>PI L s1 x/\ ∃n,N<=n+x.2.at_/\((dJ L [pJ] (rec 1) n x).1,cW (dJ L [pJ] (rec 1) n x).2)=M) hc hb x0 ⟨al,N,om,hM.symm⟩ ?_ ?_
 .exact ca 3 (by simp[go_sem,zB]) rfl (by simp[rB,zB,bP,cK,cG,bH.bN]) dc (zD sg rfl)
 rintro x ⟨hx,n,hn,hinv⟩
 have a6:=hx.cd.at_
 have ae:=iM L hL x.2 hx.cd pJ
 have ao:=mG L hL x.2 hx.cd
 have af:=hx.bS
 obtain⟨aw,ax⟩:=QU L x.2 pJ dc
 by_cases q:cC L pJ x.2=false
 .rw[q]at ae
  have ay:M=(x.1,cW x.2):=by
   cases n with
   |zero=>exact hinv.symm
   |succ n=>rw[dJ,afb (aw.2 q)]at hinv;exact hinv.symm
  have az:IntKind.i64.wrap (x.2.bS - 1)=x.2.bS - 1:=by rw[af];exact eo
  refine zA ?_
  simp[go_sem]
  refine pC ad ?_
  simp[go_sem]
  refine pR ae ?_
  simp[go_sem,rB,az]
  exact wG (s:=cW x.2) ay
 have q:cC L pJ x.2:=sU q
 rw[q]at ae
 obtain⟨n,rfl⟩: ∃m,n=m+1:=⟨n - 1,om⟩
 have ag:=ax q
 rw[dJ,afa (by rw[ag];decide),ag]at hinv
 have aq:=hx.cd.next hL q
 have hy:=hP.ok 1 (zJ x.2) aq (by show x.2.bS=_;rw[af,ab])
 have ar:=QR L rec _ hP (zJ x.2) aq (by show x.2.bS=_;rw[af,ab])
 generalize rec 1 (zJ x.2)=y at hy ar hinv
 have a1:=hy.up
 rw[np]at a1
 have au: ∀e∈ [x.1,y.1],eU e:=λe he=>by
  simp only[Ae,B4,afn]at he
  rcases he with rfl|rfl
  .exact hx.wide
  .exact hy.wide
 have hz:PI L s1 (gx (bV L x.2).place pJ [x.1,y.1] y.2):=tu _ _ hy.cd (by rw[hy.bS];exact af) (by have:=hx.up;omega) (λhe=>(hx.err (hy.err he).1).1) sm au
 have ai:=lN L y.2 (bV L x.2).place pJ [x.1,y.1] sm au (λhe=>by
   have h1:=(hy.err he).2
   have h2:=(hx.err (hy.err he).1).2
   simp only[wH]
   omega)
 have av:(gx (bV L x.2).place pJ [x.1,y.1] y.2).2.at_=y.2.at_:=BL _ _ _ _
 generalize gx (bV L x.2).place pJ [x.1,y.1] y.2=z at hz ai hinv av
 have a7:=hz.cd.at_
 have hl:=hL.len
 have ei:IntKind.i64.wrap ((x.2.at_:Int)+1)=((x.2.at_+1:Nat):Int):=by rw[bR om om];omega
 simp only[Ai,Bk,bH.bN]at ai
 refine zA ?_
 simp[go_sem]
 refine pC ad ?_
 simp[go_sem]
 refine pR ae ?_
 simp[go_sem]
 refine pR ao ?_
 simp[go_sem,rB,ei]
 refine oL [(2,0),(11,3),(13,3)] 1 3 sm kR kR ?_
 simp[go_sem]
 refine pD ad ?_
 simp[go_sem]
 refine qB ar cB (wI ⟨zC rfl,tV⟩) ?_
 simp[go_sem,bH.bN]
 refine qB ai cB (wI ⟨zC rfl,zC rfl,zK,tV⟩) ?_
 simp[go_sem,bH.bN]
 refine zG z ⟨om,⟨hz,n,om,hinv⟩, ?_⟩
 exact ca 3 (by simp[go_sem,rB,zB,bH.bN]) rfl (by simp[zB,bP,cK,cG,bH.bN]) dc (zD sg rfl)
theorem YI (L:List bJ) (hL:ee L) (rec:Nat->RS->PR) (s:RS) (hs:cP L s) (h2:s.bS<=200) (aj:s.bS+1<=200->PW L rec (s.bS+1)):
  bK prog 267 [.ptr 0 0,.int .i64 1] [rB L s] (RR L (jm L (jx L rec 1) s)):=by
 have hr:=BI L hL s hs om
 have aa:=tz hs h2
 have ab:=pK (L:=L) s
 have ak:=tw (L:=L) (s:=s)
 have ho:=hs.bS
 have hM:jm L (jx L rec 1) s=if(yD L s).err=0 then((dJ L [jn] (rec 2) L.length (rec 2 (yD L s))).1,cW (dJ L [jn] (rec 2) L.length (rec 2 (yD L s))).2)else(dh,cW (yD L s)):=rfl
 generalize jm L (jx L rec 1) s=M at hM⊢
 generalize yD L s=s1 at hr aa ab ak hM
 have eo:=BQ (o:=s1.bS) om om
 have ad:=QF
 refine iV 1 func267 ntmps267 results267 λc hc hb=> ?_
 by_cases q1:s1.err=0
 rotate_left
 .have ah:(s1.err==0)=false:=sU q1
  rw[afa q1]at hM
  rw[ah]at hr
  refine zA ?_
  simp[go_sem]
  refine pR hr ?_
  simp[go_sem,rB,eo]
  exact yf (e:=dh) (s:=cW s1) hM
 have ah:(s1.err==0)=true:=sU q1
 rw[afb q1]at hM
 rw[ah]at hr
 have hP:=aj (ak q1).2
 have al:=hP.ok 2 s1 aa ab
 have an:=QS L rec _ hP s1 aa ab
 generalize rec 2 s1=x0 at al an hM
 obtain⟨N,hN⟩:=eX L.length
 rw[hN]at hM
 refine zA ?_
 simp[go_sem]
 refine pR hr ?_
 simp[go_sem]
 refine jy an cB (wI ⟨zC rfl,tV⟩) ?_
 simp[go_sem]
 refine zH (S:=PR) [0,1,4,5] (λx=> [.ptr 0 0,.int .i64 1,.ptr 1 0,.ptr 2 0]) (λx=> [rB L x.2,zB,.box x.1.row]) (λx=>N - x.2.at_) (λx=>PI L s1 x/\ ∃n,N<=n+x.2.at_/\((dJ L [jn] (rec 2) n x).1,cW (dJ L [jn] (rec 2) n x).2)=M) hc hb x0 ⟨al,N,om,hM.symm⟩ ?_ ?_
 .exact ca 3 (by simp[go_sem,zB]) rfl (by simp[rB,zB,bP,cK,cG,bH.bN]) dc (zD sg rfl)
 rintro x ⟨hx,n,hn,hinv⟩
 have a6:=hx.cd.at_
 have ae:=iM L hL x.2 hx.cd jn
 have ao:=mG L hL x.2 hx.cd
 have af:=hx.bS
 obtain⟨aw,ax⟩:=QU L x.2 jn dc
 by_cases q:cC L jn x.2=false
 .rw[q]at ae
  have ay:M=(x.1,cW x.2):=by
   cases n with
   |zero=>exact hinv.symm
   |succ n=>rw[dJ,afb (aw.2 q)]at hinv;exact hinv.symm
  have az:IntKind.i64.wrap (x.2.bS - 1)=x.2.bS - 1:=by rw[af];exact eo
  refine zA ?_
  simp[go_sem]
  refine pC ad ?_
  simp[go_sem]
  refine pR ae ?_
  simp[go_sem,rB,az]
  exact wG (s:=cW x.2) ay
 have q:cC L jn x.2:=sU q
 rw[q]at ae
 obtain⟨n,rfl⟩: ∃m,n=m+1:=⟨n - 1,om⟩
 have ag:=ax q
 rw[dJ,afa (by rw[ag];decide),ag]at hinv
 have aq:=hx.cd.next hL q
 have hy:=hP.ok 2 (zJ x.2) aq (by show x.2.bS=_;rw[af,ab])
 have ar:=QS L rec _ hP (zJ x.2) aq (by show x.2.bS=_;rw[af,ab])
 generalize rec 2 (zJ x.2)=y at hy ar hinv
 have a1:=hy.up
 rw[np]at a1
 have au: ∀e∈ [x.1,y.1],eU e:=λe he=>by
  simp only[Ae,B4,afn]at he
  rcases he with rfl|rfl
  .exact hx.wide
  .exact hy.wide
 have hz:PI L s1 (gx (bV L x.2).place jn [x.1,y.1] y.2):=tu _ _ hy.cd (by rw[hy.bS];exact af) (by have:=hx.up;omega) (λhe=>(hx.err (hy.err he).1).1) sm au
 have ai:=lN L y.2 (bV L x.2).place jn [x.1,y.1] sm au (λhe=>by
   have h1:=(hy.err he).2
   have h2:=(hx.err (hy.err he).1).2
   simp only[wH]
   omega)
 have av:(gx (bV L x.2).place jn [x.1,y.1] y.2).2.at_=y.2.at_:=BL _ _ _ _
 generalize gx (bV L x.2).place jn [x.1,y.1] y.2=z at hz ai hinv av
 have a7:=hz.cd.at_
 have hl:=hL.len
 have ei:IntKind.i64.wrap ((x.2.at_:Int)+1)=((x.2.at_+1:Nat):Int):=by rw[bR om om];omega
 simp only[Ai,Bk,bH.bN]at ai
 refine zA ?_
 simp[go_sem]
 refine pC ad ?_
 simp[go_sem]
 refine pR ae ?_
 simp[go_sem]
 refine pR ao ?_
 simp[go_sem,rB,ei]
 refine oL [(2,0),(11,3),(13,3)] 1 3 sm kR kR ?_
 simp[go_sem]
 refine pD ad ?_
 simp[go_sem]
 refine qB ar cB (wI ⟨zC rfl,tV⟩) ?_
 simp[go_sem,bH.bN]
 refine qB ai cB (wI ⟨zC rfl,zC rfl,zK,tV⟩) ?_
 simp[go_sem,bH.bN]
 refine zG z ⟨om,⟨hz,n,om,hinv⟩, ?_⟩
 exact ca 3 (by simp[go_sem,rB,zB,bH.bN]) rfl (by simp[zB,bP,cK,cG,bH.bN]) dc (zD sg rfl)
theorem I8 {x:bH} (h:eU x): ∀e∈ [x],eU e:=λe he=>by
 simp only[Ae,B4,afn]at he
 subst he
 exact h
theorem YJ {x y:bH} (h:eU x) (h2:eU y): ∀e∈ [x,y],eU e:=λe he=>by
 simp only[Ae,B4,afn]at he
 rcases he with rfl|rfl
 .exact h
 .exact h2
theorem YK (L:List bJ) (hL:ee L) (rec:Nat->RS->PR) (s:RS) (hs:cP L s) (h2:s.bS<=200) (aj:s.bS+1<=200->PW L rec (s.bS+1)):
  bK prog 355 [.ptr 0 0] [rB L s] (RR L (jm L (jx L rec 2) s)):=by
 have hr:=BI L hL s hs om
 have aa:=tz hs h2
 have ad:=pK (L:=L) s
 have ak:=tw (L:=L) (s:=s)
 have ho:=hs.bS
 have hM:jm L (jx L rec 2) s=if(yD L s).err=0 then((j9 L (rec 2) (rec 3) (yD L s)).1,cW (j9 L (rec 2) (rec 3) (yD L s)).2)else(dh,cW (yD L s)):=rfl
 generalize jm L (jx L rec 2) s=M at hM⊢
 generalize yD L s=s1 at hr aa ad ak hM
 have eo:=BQ (o:=s1.bS) om om
 refine iW 1 func355 ntmps355 results355 λc hc hb=>zL ?_
 by_cases q1:s1.err=0
 rotate_left
 .have ag:(s1.err==0)=false:=sU q1
  rw[afa q1]at hM
  rw[ag]at hr
  simp[go_sem]
  refine pR hr ?_
  simp[go_sem,rB,eo]
  exact yf (e:=dh) (s:=cW s1) hM
 have ag:(s1.err==0)=true:=sU q1
 rw[afb q1]at hM
 rw[ag]at hr
 have hP:=aj (ak q1).2
 have af:=mG L hL s1 aa
 have ab:=BG L hL s1 aa iq
 unfold j9 at hM
 unfold lK at ab
 by_cases q:cC L iq s1=true
 .rw[afb q]at hM
  rw[afb q,q]at ab
  have al:=aa.next hL q
  have hy:=hP.ok 2 (zJ s1) al ad
  have ae:=hP.not (zJ s1) al ad
  generalize rec 2 (zJ s1)=y at hy ae hM
  have ah:=lN L y.2 (bV L s1).place iq [y.1] sm (I8 hy.wide) (λhe=>by
   have h1:=(hy.err he).2
   simp only[wH]
   omega)
  have an:(gx (bV L s1).place iq [y.1] y.2).2.bS=s1.bS:=by
   show(kB _ _ _ y.2).bS=_
   rw[I5,hy.bS];rfl
  generalize gx (bV L s1).place iq [y.1] y.2=z at ah hM an
  have ai:IntKind.i64.wrap (z.2.bS - 1)=z.2.bS - 1:=by rw[an];exact eo
  simp only[Ai,Bk,bH.bN]at ah
  simp[go_sem]
  refine pR hr ?_
  simp[go_sem]
  refine pR af ?_
  simp[go_sem]
  refine pR ab ?_
  simp[go_sem]
  refine jy ae cB fb ?_
  simp[go_sem,bH.bN]
  refine jy ah cB (wI ⟨zC rfl,zC rfl,zK,tV⟩) ?_
  simp[go_sem,rB,bH.bN,ai]
  exact wG (s:=cW z.2) hM
 .have q:cC L iq s1=false:=sU q
  rw[afa (by rw[q];decide)]at hM
  rw[afa (by rw[q];decide),q]at ab
  have hy:=hP.ok 3 s1 aa ad
  have ae:=hP.cmp s1 aa ad
  generalize rec 3 s1=z at hy ae hM
  have ai:IntKind.i64.wrap (z.2.bS - 1)=z.2.bS - 1:=by rw[hy.bS];exact eo
  simp[go_sem]
  refine pR hr ?_
  simp[go_sem]
  refine pR af ?_
  simp[go_sem]
  refine pR ab ?_
  simp[go_sem]
  refine jy ae cB fb ?_
  simp[go_sem,rB,bH.bN,ai]
  exact wG (s:=cW z.2) hM
theorem YL (L:List bJ) (s:RS) (w:afE) (ws:List afE) (h:cC L w s):dm L s (w::ws)=w:=by unfold dm;rw[afb h]
theorem YM (L:List bJ) (s:RS) (w:afE) (ws:List afE) (h:cC L w s=false):dm L s (w::ws)=dm L s ws:=by unfold dm;rw[afa (by rw[h];decide)];cases ws<;>rfl
theorem YN: ∀w∈eO,w≠ []:=dc
theorem YO (L:List bJ) (hL:ee L) (rec:Nat->RS->PR) (s:RS) (hs:cP L s) (h2:s.bS<=200) (ax:s.bS+1<=200->PW L rec (s.bS+1)):
  bK prog 364 [.ptr 0 0] [rB L s] (RR L (jm L (jx L rec 3) s)):=by
 have hr:=BI L hL s hs om
 have ah:=tz hs h2
 have ai:=pK (L:=L) s
 have ay:=tw (L:=L) (s:=s)
 have ho:=hs.bS
 have hM:jm L (jx L rec 3) s=if(yD L s).err=0 then((ka L (rec 4) (rec 4 (yD L s))).1,cW (ka L (rec 4) (rec 4 (yD L s))).2)else(dh,cW (yD L s)):=rfl
 generalize jm L (jx L rec 3) s=M at hM⊢
 generalize yD L s=s1 at hr ah ai ay hM
 have eo:=BQ (o:=s1.bS) om om
 refine iV 1 func364 ntmps364 results364 λc hc hb=> ?_
 by_cases q1:s1.err=0
 rotate_left
 .have av:(s1.err==0)=false:=sU q1
  rw[afa q1]at hM
  rw[av]at hr
  refine zA ?_
  simp[go_sem]
  refine pR hr ?_
  simp[go_sem,rB,eo]
  exact yf (e:=dh) (s:=cW s1) hM
 have av:(s1.err==0)=true:=sU q1
 rw[afb q1]at hM
 rw[av]at hr
 have hP:=ax (ay q1).2
 have hx:=hP.ok 4 s1 ah ai
 have ar:=hP.sum s1 ah ai
 generalize rec 4 s1=x at hx ar hM
 have aj:=mG L hL x.2 hx.cd
 have aa:=BG L hL x.2 hx.cd Ez
 have af:=hx.bS
 unfold ka at hM
 unfold lK at aa
 by_cases q:cC L Ez x.2=true
 .rw[afb q]at hM
  rw[afb q,q]at aa
  have ag:=hx.cd.next hL q
  have ab:=BG L hL (zJ x.2) ag iq
  unfold lK at ab
  by_cases q2:cC L iq (zJ x.2)=true
  .rw[afb q2]at hM
   rw[afb q2,q2]at ab
   have a7:=ag.next hL q2
   have ak:=kQ L hL _ a7 lM
   have al:=BO (L:=L) lM (zJ (zJ x.2))
   have an:=uS (L:=L) (w:=lM) (s:=zJ (zJ x.2))
   generalize zV L lM (zJ (zJ x.2))=u at ak al an hM
   have aw:u.bS=s1.bS:=by rw[al];exact af
   have ae:IntKind.i64.wrap (u.bS - 1)=u.bS - 1:=by rw[aw];exact eo
   have ad:=lN L (cW u) (bV L x.2).place I4 [x.1] sm (I8 hx.wide) (λhe=>by
    have h1:=(hx.err (an he).1).2
    simp only[wH]
    omega)
   have ao:M=gx (bV L x.2).place I4 [x.1] (cW u):=by rw[hM];unfold gx;rw[QI]
   clear hM
   generalize gx (bV L x.2).place I4 [x.1] (cW u)=z at ad ao
   simp only[Ai,Bk,bH.bN]at ad
   refine zA ?_
   simp[go_sem]
   refine pR hr ?_
   simp[go_sem]
   refine jy ar cB fb ?_
   simp[go_sem,bH.bN]
   refine pR aj ?_
   simp[go_sem]
   refine pR aa ?_
   simp[go_sem]
   refine pR ab ?_
   simp[go_sem]
   refine pR ak ?_
   simp[go_sem,rB,ae]
   refine jy (s:=cW u) ad cB (wI ⟨zC rfl,zC rfl,zK,tV⟩) ?_
   simp[go_sem,bH.bN]
   exact wG ao
  .have q2:cC L iq (zJ x.2)=false:=sU q2
   rw[afa (by rw[q2];decide)]at hM
   rw[afa (by rw[q2];decide),q2]at ab
   have ak:=kQ L hL _ ag lM
   have al:=BO (L:=L) lM (zJ x.2)
   have an:=uS (L:=L) (w:=lM) (s:=zJ x.2)
   generalize zV L lM (zJ x.2)=u at ak al an hM
   have aw:u.bS=s1.bS:=by rw[al];exact af
   have ae:IntKind.i64.wrap (u.bS - 1)=u.bS - 1:=by rw[aw];exact eo
   have ad:=lN L (cW u) (bV L x.2).place I0 [x.1] sm (I8 hx.wide) (λhe=>by
    have h1:=(hx.err (an he).1).2
    simp only[wH]
    omega)
   have ao:M=gx (bV L x.2).place I0 [x.1] (cW u):=by rw[hM];unfold gx;rw[QI]
   clear hM
   generalize gx (bV L x.2).place I0 [x.1] (cW u)=z at ad ao
   simp only[Ai,Bk,bH.bN]at ad
   refine zA ?_
   simp[go_sem]
   refine pR hr ?_
   simp[go_sem]
   refine jy ar cB fb ?_
   simp[go_sem,bH.bN]
   refine pR aj ?_
   simp[go_sem]
   refine pR aa ?_
   simp[go_sem]
   refine pR ab ?_
   simp[go_sem]
   refine pR ak ?_
   simp[go_sem,rB,ae]
   refine jy (s:=cW u) ad cB (wI ⟨zC rfl,zC rfl,zK,tV⟩) ?_
   simp[go_sem,bH.bN]
   exact wG ao
 have q:cC L Ez x.2=false:=sU q
 rw[afa (by rw[q];decide)]at hM
 rw[afa (by rw[q];decide),q]at aa
 refine zA ?_
 simp[go_sem]
 refine pR hr ?_
 simp[go_sem]
 refine jy ar cB fb ?_
 simp[go_sem,bH.bN]
 refine pR aj ?_
 simp[go_sem]
 refine pR aa ?_
 simp[go_sem]
 refine zH (S:=Nat) [0,2,3,4,5,7] (λi=> [.ptr 0 0,.ptr 1 0,.ptr 2 0,.int .i64 (bV L x.2).place,.sl .ro (eO.map λw=> [V.str w]),.int .i64 (i:Int)]) (λ_=> [rB L x.2,zB,.box x.1.row]) (λi=>6 - i) (λi=>i<=6/\dm L x.2 (eO.drop i)=dm L x.2 eO) hc hb 0 ⟨A5 _,rfl⟩ ?_ ?_
 .exact ca 3 (by simp[go_sem,zB,bH.bN]) rfl (by simp[rB,zB,bP,cK,cG,bH.bN]) dc ⟨s8 (by rfl),s8 (by rfl),s8 (by rfl),zC rfl,zK,zC rfl,tV⟩
 rintro i ⟨hi,hinv⟩
 by_cases qi:i<6
 rotate_left
 .obtain rfl:i=6:=om
  have ha:dm L x.2 eO= []:=by rw[<-hinv];rfl
  rw[afb ha]at hM
  have ae:IntKind.i64.wrap (x.2.bS - 1)=x.2.bS - 1:=by rw[af];exact eo
  refine zA ?_
  simp[go_sem,eO,rB,ae,bH.bN]
  exact wG (s:=cW x.2) hM
 have aq:i<eO.length:=qi
 obtain⟨w,hw⟩:=eX (eO[i])
 have a8:w∈eO:=hw▸Aa aq
 have aA:=YN w a8
 rw[A2 aq,hw]at hinv
 have aa:=BG L hL x.2 hx.cd w
 unfold lK at aa
 have az:decide ((i:Int)<6)=true:=afd om
 have ei:=zR qi dc
 have au:(eO.length:Int)=6:=rfl
 by_cases qw:cC L w x.2=true
 rotate_left
 .have qw:cC L w x.2=false:=sU qw
  rw[YM L x.2 w _ qw]at hinv
  rw[afa (by rw[qw];decide),qw]at aa
  refine zA ?_
  simp[go_sem,au,az,aq,hw]
  refine zI om ?_
  simp[go_sem]
  refine pR aa ?_
  simp[go_sem,ei]
  refine zG (i+1) ⟨om,⟨om,hinv⟩, ?_⟩
  exact ca 3 (by simp[go_sem,rB,zB,bH.bN]) rfl (by simp[rB,zB,bP,cK,cG,bH.bN]) dc (zD sg rfl)
 rw[YL L x.2 w _ qw]at hinv
 rw[afa (by rw[<-hinv];exact aA),<-hinv]at hM
 rw[afb qw,qw]at aa
 have ag:=hx.cd.next hL qw
 have hy:=hP.ok 4 (zJ x.2) ag (by show x.2.bS=_;rw[af,ai])
 have a1:=hP.sum (zJ x.2) ag (by show x.2.bS=_;rw[af,ai])
 generalize rec 4 (zJ x.2)=y at hy a1 hM
 have ad:=lN L y.2 (bV L x.2).place w [x.1,y.1] sm (YJ hx.wide hy.wide) (λhe=>by
   have h1:=(hy.err he).2
   have h2:=(hx.err (hy.err he).1).2
   simp only[wH]
   omega)
 have a6:(gx (bV L x.2).place w [x.1,y.1] y.2).2.bS=s1.bS:=by
  show(kB _ _ _ y.2).bS=_
  rw[I5,hy.bS];exact af
 generalize gx (bV L x.2).place w [x.1,y.1] y.2=z at ad hM a6
 have ae:IntKind.i64.wrap (z.2.bS - 1)=z.2.bS - 1:=by rw[a6];exact eo
 simp only[Ai,Bk,bH.bN]at ad
 refine zA ?_
 simp[go_sem,au,az,aq,hw]
 refine zI om ?_
 simp[go_sem]
 refine pR aa ?_
 simp[go_sem]
 refine oL [(8,3),(10,3)] 1 3 sm kR kR ?_
 simp[go_sem,aq,hw]
 refine qB a1 cB fb ?_
 simp[go_sem,bH.bN]
 refine qB ad cB (wI ⟨zC rfl,zC rfl,zK,tV⟩) ?_
 simp[go_sem,rB,bH.bN,ae]
 exact wG (s:=cW z.2) hM
theorem Gr (v:bG):Pure prog 375 [.agg v.row] (.agg (jK v).row):=by
 refine iW 0 func375 ntmps375 results375 λc hc hb=>zL ?_
 simp[go_sem]
 exact yL (r:= .agg [.int .i64 1,.str [],.int .i64 v.kind,.int .i64 v.n,.str v.s,.sl .ro []]) (xx ⟨zU rfl,zU rfl,zU rfl,zU rfl,zU rfl,yX,tV⟩) ⟨rfl,rfl⟩
theorem xK (L:List bJ) (hL:ee L) (s:RS) (hs:cP L s) (w:afE) (h:cC L w s):bK prog 74 [.ptr 0 0,.str w] [rB L s] (λr U=>r= .bool true/\U= [rB L (zJ s)]):=by
 have:=BG L hL s hs w
 unfold lK at this
 rw[afb h,h]at this
 exact this
theorem wO (L:List bJ) (hL:ee L) (s:RS) (hs:cP L s) (w:afE) (h:cC L w s=false):bK prog 74 [.ptr 0 0,.str w] [rB L s] (λr U=>r= .bool false/\U= [rB L s]):=by
 have:=BG L hL s hs w
 unfold lK at this
 rw[afa (by rw[h];decide),h]at this
 exact this
theorem YP (L:List bJ) (hL:ee L) (rec:Nat->RS->PR) (s:RS) (hs:cP L s) (hP:PW L rec s.bS)
  (hex: ∀s',cP L s'->s'.bS=s.bS->bK prog 210 [.ptr 0 0] [rB L s'] (RR L (rec 0 s'))):
  bK prog 374 [.ptr 0 0] [rB L s] (RR L (oO L (rec 6) (rec 0) s)):=by
 generalize hM:oO L (rec 6) (rec 0) s=M
 unfold oO at hM
 have ab:=mG L hL s hs
 have an:=hs.at_
 have hl:=hL.len
 have ei:IntKind.i64.wrap ((s.at_:Int)+1)=((s.at_+1:Nat):Int):=by rw[bR om om];omega
 have ag:=BH L hL s hs
 refine iW 1 func374 ntmps374 results374 λc hc hb=>zL ?_
 by_cases q1:cC L [45] s=true
 .rw[afb q1]at hM
  have ak:=xK L hL s hs _ q1
  have ad:=hs.next hL q1
  have hy:=hP.ok 6 (zJ s) ad rfl
  have ae:=hP.unary (zJ s) ad rfl
  generalize rec 6 (zJ s)=y at hy ae hM
  have ah:=lN L y.2 (bV L s).place [78,69,71] [y.1] sm (I8 hy.wide) (λhe=>by
   have h1:=(hy.err he).2
   simp only[wH]
   omega)
  generalize gx (bV L s).place [78,69,71] [y.1] y.2=z at ah hM
  simp only[Ai,Bk,bH.bN]at ah
  simp[go_sem]
  refine pR ab ?_
  simp[go_sem]
  refine pR ak ?_
  simp[go_sem]
  refine oL [(4,3),(6,3)] 1 3 sm kR kR ?_
  simp[go_sem]
  refine qB ae cB fb ?_
  simp[go_sem,bH.bN]
  refine qB ah cB (wI ⟨zC rfl,zC rfl,zK,tV⟩) ?_
  simp[go_sem,bH.bN]
  exact wG hM.symm
 have q1:cC L [45] s=false:=sU q1
 rw[afa (by rw[q1];decide)]at hM
 have af:=wO L hL s hs _ q1
 by_cases q2:cC L [40] s=true
 .rw[afb q2]at hM
  have aa:=xK L hL s hs _ q2
  have ad:=hs.next hL q2
  have hy:=hP.ok 0 (zJ s) ad rfl
  have ae:=hex (zJ s) ad rfl
  generalize rec 0 (zJ s)=y at hy ae hM
  have al:=kQ L hL y.2 hy.cd [41]
  generalize zV L [41] y.2=u at al hM
  simp[go_sem]
  refine pR ab ?_
  simp[go_sem]
  refine pR af ?_
  simp[go_sem]
  refine pR aa ?_
  simp[go_sem]
  refine jy ae cB fb ?_
  simp[go_sem,bH.bN]
  refine pR al ?_
  simp[go_sem]
  exact wG hM.symm
 have q2:cC L [40] s=false:=sU q2
 rw[afa (by rw[q2];decide)]at hM
 have aa:=wO L hL s hs _ q2
 simp[go_sem]
 refine pR ab ?_
 simp[go_sem]
 refine pR af ?_
 simp[go_sem]
 refine pR aa ?_
 simp[go_sem]
 by_cases q3:cC L [84,82,85,69] s=true
 .rw[afb q3]at hM
  have hv:=Gr ⟨1,1,[]⟩
  simp only[bH.bN,bG.row]at hv
  refine pR (xK L hL s hs _ q3) ?_
  simp[go_sem]
  refine pC hv ?_
  simp[go_sem]
  exact wG (e:=jK ⟨1,1,[]⟩) (s:=zJ s) hM.symm
 have q3:cC L [84,82,85,69] s=false:=sU q3
 rw[afa (by rw[q3];decide)]at hM
 refine pR (wO L hL s hs _ q3) ?_
 simp[go_sem]
 by_cases q4:cC L [70,65,76,83,69] s=true
 .rw[afb q4]at hM
  have hv:=Gr ⟨1,0,[]⟩
  simp only[bH.bN,bG.row]at hv
  refine pR (xK L hL s hs _ q4) ?_
  simp[go_sem]
  refine pC hv ?_
  simp[go_sem]
  exact wG (e:=jK ⟨1,0,[]⟩) (s:=zJ s) hM.symm
 have q4:cC L [70,65,76,83,69] s=false:=sU q4
 rw[afa (by rw[q4];decide)]at hM
 refine pR (wO L hL s hs _ q4) ?_
 simp[go_sem]
 by_cases q5:cC L lM s=true
 .rw[afb q5]at hM
  have hv:=Gr ⟨0,0,[]⟩
  simp only[bH.bN,bG.row]at hv
  refine pR (xK L hL s hs _ q5) ?_
  simp[go_sem]
  refine pC hv ?_
  simp[go_sem]
  exact wG (e:=jK ⟨0,0,[]⟩) (s:=zJ s) hM.symm
 have q5:cC L lM s=false:=sU q5
 rw[afa (by rw[q5];decide)]at hM
 refine pR (wO L hL s hs _ q5) ?_
 simp[go_sem]
 obtain⟨t,ht⟩:=eX (bV L s)
 rw[ht]at hM
 rw[ht]
 by_cases q6:t.kind=2
 .rw[afb q6]at hM
  have hv:=Gr ⟨2,t.n,[]⟩
  simp only[bH.bN,bG.row]at hv
  have ai:(t.kind==2)=true:=sU q6
  simp[go_sem,ai,rB,ei]
  refine pC hv ?_
  simp[go_sem]
  exact wG (e:=jK ⟨2,t.n,[]⟩) (s:=zJ s) hM.symm
 rw[afa q6]at hM
 have ai:(t.kind==2)=false:=sU q6
 simp[go_sem,ai]
 by_cases q7:t.kind=3
 .rw[afb q7]at hM
  have hv:=Gr ⟨3,0,t.s⟩
  simp only[bH.bN,bG.row]at hv
  have aj:(t.kind==3)=true:=sU q7
  simp[go_sem,aj,rB,ei]
  refine pC hv ?_
  simp[go_sem]
  exact wG (e:=jK ⟨3,0,t.s⟩) (s:=zJ s) hM.symm
 rw[afa q7]at hM
 have aj:(t.kind==3)=false:=sU q7
 simp[go_sem,aj]
 refine pR ag ?_
 simp[go_sem]
 exact yf (e:=uR (yN L s).1) (s:=(yN L s).2) hM.symm
theorem YQ (L:List bJ) (hL:ee L) (rec:Nat->RS->PR) (s:RS) (hs:cP L s) (h2:s.bS<=200) (af:s.bS+1<=200->PW L rec (s.bS+1))
  (hex:s.bS+1<=200-> ∀s',cP L s'->s'.bS=s.bS+1->bK prog 210 [.ptr 0 0] [rB L s'] (RR L (rec 0 s'))):
  bK prog 373 [.ptr 0 0] [rB L s] (RR L (jm L (jx L rec 6) s)):=by
 have hr:=BI L hL s hs om
 have aa:=tz hs h2
 have ad:=pK (L:=L) s
 have ag:=tw (L:=L) (s:=s)
 have ho:=hs.bS
 have hM:jm L (jx L rec 6) s=if(yD L s).err=0 then((oO L (rec 6) (rec 0) (yD L s)).1,cW (oO L (rec 6) (rec 0) (yD L s)).2)else(dh,cW (yD L s)):=rfl
 generalize jm L (jx L rec 6) s=M at hM⊢
 generalize yD L s=s1 at hr aa ad ag hM
 have eo:=BQ (o:=s1.bS) om om
 refine iW 1 func373 ntmps373 results373 λc hc hb=>zL ?_
 by_cases q1:s1.err=0
 rotate_left
 .have ae:(s1.err==0)=false:=sU q1
  rw[afa q1]at hM
  rw[ae]at hr
  simp[go_sem]
  refine pR hr ?_
  simp[go_sem,rB,eo]
  exact yf (e:=dh) (s:=cW s1) hM
 have ae:(s1.err==0)=true:=sU q1
 rw[afb q1]at hM
 rw[ae]at hr
 have ab:=(ag q1).2
 have hP:PW L rec s1.bS:=by rw[ad];exact af ab
 have cH:=QP hL (hP.ok 6) (hP.ok 0) s1 aa rfl
 have ah:=YP L hL rec s1 aa hP (λs' h1 h2=>hex ab s' h1 (by rw[h2,ad]))
 generalize oO L (rec 6) (rec 0) s1=z at cH ah hM
 have ai:IntKind.i64.wrap (z.2.bS - 1)=z.2.bS - 1:=by rw[cH.bS];exact eo
 simp[go_sem]
 refine pR hr ?_
 simp[go_sem]
 refine jy ah cB fb ?_
 simp[go_sem,rB,bH.bN,ai]
 exact wG (s:=cW z.2) hM
theorem QV (L:List bJ) (s:RS) (x:PR) (aa:bK prog 267 [.ptr 0 0,.int .i64 0] [rB L s] (RR L x)):bK prog 210 [.ptr 0 0] [rB L s] (RR L x):=by
 refine iW 1 func210 ntmps210 results210 λc hc hb=>zL ?_
 simp[go_sem]
 refine jy aa cB (wI ⟨zC rfl,tV⟩) ?_
 simp[go_sem,bH.bN]
 exact wG rfl
theorem QW (L:List bJ) (hL:ee L): ∀(f:Nat) (o:Int),o<=200->201<=(f:Int)+o->PW L (pF L f) o
 |0,o,h,hf=>by omega
 |f+1,o,h,hf=>by
  have ih: ∀s:RS,s.bS=o->s.bS+1<=200->PW L (pF L f) (s.bS+1):=λs hs h1=>QW L hL f (s.bS+1) h1 (by push_cast at hf;omega)
  have aa: ∀s:RS,s.bS=o->s.bS+1<=200-> ∀s',cP L s'->s'.bS=s.bS+1->bK prog 210 [.ptr 0 0] [rB L s'] (RR L (pF L f 0 s')):=λs hs h1 s' h2 h3=>QV L s' _ ((ih s hs h1).chain 0 (A5 _) s' h2 h3)
  refine⟨λw s hs ho=>I7 hL (f+1) w s hs om (by push_cast at hf⊢;omega),λk hk s hs ho=> ?_,λs hs ho=> ?_,λs hs ho=> ?_,λs hs ho=> ?_,λs hs ho=> ?_,λs hs ho=> ?_⟩
  .have hk:k=0\/k=1:=om
   rcases hk with rfl|rfl
   .exact YH L hL (pF L f) s hs om (ih s ho)
   .exact YI L hL (pF L f) s hs om (ih s ho)
  .exact YK L hL (pF L f) s hs om (ih s ho)
  .exact YO L hL (pF L f) s hs om (ih s ho)
  .exact YF L hL (pF L f) s hs om (ih s ho)
  .exact YG L hL (pF L f) s hs om (ih s ho)
  .exact YQ L hL (pF L f) s hs om (ih s ho) (aa s ho)
def gq (L:List bJ) (s:RS):PR:=pF L 201 0 s
theorem Mk {L:List bJ} (hL:ee L) {s:RS} (hs:cP L s) (ho:s.bS=0):PI L s (gq L s):=I7 hL 201 0 s hs om om
theorem rU (L:List bJ) (hL:ee L) (s:RS) (hs:cP L s) (ho:s.bS=0):bK prog 210 [.ptr 0 0] [rB L s] (RR L (gq L s)):=
 QV L s _ ((QW L hL 201 0 dc dc).chain 0 (A5 _) s hs ho)
mutual
def mH:bH->Nat
 | .mk _ _ _ args=>oP args+1
def oP:List bH->Nat
 | []=>0
 |e::l=>mH e+oP l
end
variable {e:bH}{w:afE}{o:Int}{n:Int}
theorem Gs (e:bH):mH e=oP e.args+1:=by cases e;rfl
inductive Good:bH->Prop
 |mk (e:bH) (hk:db e.kind) (hs:e.s.length<=1048576) (hv:e.v.ok) (hn:e.v.s.length<=1048576) (ha: ∀x∈e.args,Good x):Good e
theorem Good.str (h:Good e):e.s.length<=1048576:=by cases h;omega
theorem Good.v (h:Good e):e.v.ok:=by cases h;omega
theorem Good.sub (h:Good e): ∀x∈e.args,Good x:=by cases h;omega
theorem I9:(⟨0,0,[]⟩:bG).ok:=⟨dc,dc,dc⟩
theorem YR (h:0<=n/\n<=9223372036854775807):(⟨2,n,[]⟩:bG).ok:=⟨sm,by grind,sm⟩
theorem YS {s:afE} (h:s.length<=1048576):(⟨3,0,s⟩:bG).ok:=⟨sm,sm,by grind[maxLen]⟩
theorem YT {a:List bH} (h:w.length<=1048576) (ha: ∀x∈a,Good x):Good (pI w a):= .mk _ (by show db 3;decide) h I9 (A5 _) ha
theorem Gt {v:bG} (h:v.ok) (h2:v.s.length<=1048576):Good (jK v):= .mk _ (by show db 1;decide) (A5 _) h h2 (λx hx=>by cases hx)
theorem YU (h:w.length<=1048576):Good (uR w):= .mk _ (by show db 2;decide) h I9 (A5 _) (λx hx=>by cases hx)
theorem QX:Good dh:= .mk _ dc dc I9 dc (λx hx=>by cases hx)
theorem Ja {x:bH} (h:Good x): ∀e∈ [x],Good e:=(by grind)
theorem QY {x y:bH} (h:Good x) (h2:Good y): ∀e∈ [x,y],Good e:=(by grind)
structure fZ (L:List bJ):Prop where
 uQ: ∀t∈L,t.s.length<=1048576
 num: ∀t∈L,0<=t.n/\t.n<=9223372036854775807
variable {L:List bJ}
theorem EB {s:RS} (hs:cP L s):bV L s∈L:=by
 unfold bV
 rw[A9,A0 hs.at_]
 simp
theorem QZ (hG:fZ L) {s:RS} (hs:cP L s) (h:cC L w s):w.length<=1048576:=by
 have:=hG.uQ _ (EB hs)
 simp_all[cC]
theorem uT (hG:fZ L) {s:RS} (hs:cP L s):(yN L s).1.length<=1048576:=by
 unfold yN
 split
 .exact hG.uQ _ (EB hs)
 simp
structure PJ (s:RS) (x:PR):Prop where
 dD:Good x.1
 size:x.2.err=0->mH x.1+s.at_<=x.2.at_
abbrev PK (L:List bJ) (s:RS) (x:PR):Prop:=PI L s x/\PJ s x
theorem YV (w:afE) (a:List bH):mH (pI w a)=oP a+1:=Gs _
theorem Jb (x:bH):oP [x]=mH x:=by rfl
theorem Q0 (x y:bH):oP [x,y]=mH x+mH y:=by rfl
theorem YW (h:e.args= []):mH e=1:=by rw[Gs,h];rfl
theorem EC {s0 s:RS} (p:Int) {a:List bH} (h1:w.length<=1048576) (h2: ∀x∈a,Good x) (h3:s.err=0->oP a+1+s0.at_<=s.at_):PJ s0 (gx p w a s):=
 ⟨YT h1 h2,λhe=>by
  have h:=Mi (p:=p) (w:=w) (a:=a) (s:=s) he
  show mH (pI w a)+s0.at_<=(kB p w a s).at_
  grind[BL,YV]⟩
theorem Gu (hL:ee L) (hG:fZ L) {o:Int} {sub:RS->PR} (ab: ∀s,cP L s->s.bS=o->PK L s (sub s)) (ws:List afE) {s0:RS}: ∀(n:Nat) (x:PR),PK L s0 x->s0.bS=o->PJ s0 (dJ L ws sub n x)
 |0,x,h,_=>h.2
 |n+1,x,h,ho=>by
  have aa:=EA hL (λs h1 h2=>(ab s h1 h2).1) ws 1 x h.1 ho
  unfold dJ
  unfold dJ at aa
  split
  .grind
  rename_i ad
  rw[afa ad]at aa
  have hi:=BM ad
  have hx:=h.1.bS
  have hy:=ab (zJ x.2) (h.1.cd.next hL hi) (by show x.2.bS=o;omega)
  have hl:=QZ hG h.1.cd hi
  have aa:PI L s0 (gx (bV L x.2).place (dm L x.2 ws) [x.1,(sub (zJ x.2)).1] (sub (zJ x.2)).2):=aa
  refine Gu hL hG ab ws n _ ⟨aa,EC _ hl (QY h.2.dD hy.2.dD) (λhe=> ?_)⟩ ho
  have h1:=hy.2.size he
  have h2:=h.2.size (hy.1.err he).1
  grind[np,Q0]
theorem YX (hL:ee L) (_hG:fZ L) {rn rc:RS->PR} (h1: ∀s,cP L s->s.bS=o->PK L s (rn s)) (h2: ∀s,cP L s->s.bS=o->PK L s (rc s)) (s:RS) (hs:cP L s) (ho:s.bS=o):PJ s (j9 L rn rc s):=by
 unfold j9
 split
 .rename_i hi
  have hy:=h1 (zJ s) (hs.next hL hi) ho
  refine EC _ dc (Ja hy.2.dD) (λhe=> ?_)
  have h:=hy.2.size he
  grind[np,Jb]
 grind
theorem YY (hL:ee L) (hG:fZ L) {sub:RS->PR} (aa: ∀s,cP L s->s.bS=o->PK L s (sub s)) (s:RS) (ho:s.bS=o) (x:PR) (h:PK L s x):PJ s (ka L sub x):=by
 have hx:=h.1.bS
 unfold ka
 split
 .rename_i hi
  split
  .rename_i ad
   refine EC _ dc (Ja h.2.dD) (λhe=> ?_)
   have h1:=h.2.size (uS he).1
   grind[BN,np,Jb]
  .refine EC _ dc (Ja h.2.dD) (λhe=> ?_)
   have h1:=h.2.size (uS he).1
   grind[BN,np,Jb]
 .split
  .grind
  rename_i ab
  have hi:=BM ab
  have hy:=aa (zJ x.2) (h.1.cd.next hL hi) (by show x.2.bS=o;omega)
  have hl:=QZ hG h.1.cd hi
  refine EC _ hl (QY h.2.dD hy.2.dD) (λhe=> ?_)
  have h1:=hy.2.size he
  have h2:=h.2.size (hy.1.err he).1
  grind[np,Q0]
theorem ED {s s2:RS} (ha:e.args= []) (h:Good e) (h2:s2.err=0->s2.at_=s.at_+1):PJ s (e,s2):=⟨h,(by grind[YW])⟩
theorem YZ (hL:ee L) (hG:fZ L) {un ex:RS->PR} (h1: ∀s,cP L s->s.bS=o->PK L s (un s)) (h2: ∀s,cP L s->s.bS=o->PK L s (ex s)) (s:RS) (hs:cP L s) (ho:s.bS=o):PJ s (oO L un ex s):=by
 have hm:=EB hs
 unfold oO
 split
 .rename_i hi
  have hy:=h1 (zJ s) (hs.next hL hi) ho
  refine EC _ dc (Ja hy.2.dD) (λhe=> ?_)
  have h:=hy.2.size he
  grind[np,Jb]
 split
 .rename_i hi
  have hy:=h2 (zJ s) (hs.next hL hi) ho
  refine⟨hy.2.dD,λhe=> ?_⟩
  have h:=hy.2.size (uS he).1
  grind[BN,np]
 split
 .exact ED rfl (Gt ⟨dc,dc,dc⟩ sm) (λ_=>rfl)
 split
 .exact ED rfl (Gt ⟨dc,dc,dc⟩ sm) (λ_=>rfl)
 split
 .exact ED rfl (by simp[Gt,I9]) (λ_=>rfl)
 split
 .exact ED rfl (Gt (YR (hG.num _ hm)) sm) (λ_=>rfl)
 split
 .exact ED rfl (Gt (YS (hG.uQ _ hm)) (hG.uQ _ hm)) (λ_=>rfl)
 .refine ED rfl (YU (uT hG hs)) (λhe=> ?_)
  have hb:=(Mj he).2
  unfold yN
  rw[afb hb]
  rfl
theorem Y0 (hL:ee L) (hG:fZ L) {rec:Nat->RS->PR} (h: ∀w s,cP L s->s.bS=o->PK L s (rec w s)): ∀(w:Nat) (s:RS),cP L s->s.bS=o->PJ s (jx L rec w s)
 |0,s,hs,ho=>Gu hL hG (h 1) _ _ _ (by grind) ho
 |1,s,hs,ho=>Gu hL hG (h 2) _ _ _ (by grind) ho
 |2,s,hs,ho=>YX hL hG (h 2) (h 3) s hs ho
 |3,s,hs,ho=>YY hL hG (h 4) s ho _ (by grind)
 |4,s,hs,ho=>Gu hL hG (h 5) _ _ _ (by grind) ho
 |5,s,hs,ho=>Gu hL hG (h 6) _ _ _ (by grind) ho
 |_w+6,s,hs,ho=>YZ hL hG (h 6) (h 0) s hs ho
theorem Y1 {k:RS->PR} (s:RS) (hk:(yD L s).err=0->PJ (yD L s) (k (yD L s))):PJ s (jm L k s):=by
 unfold jm
 split
 .rename_i he
  have hy:=hk he
  refine⟨hy.dD,λh=> ?_⟩
  have h2:=hy.size h
  rw[I6]at h2
  exact h2
 .rename_i he
  exact⟨QX,λh=>absurd h he⟩
theorem Gv (hL:ee L) (hG:fZ L): ∀(f:Nat) (w:Nat) (s:RS),cP L s->s.bS<=200->201<=(f:Int)+s.bS->PJ s (pF L f w s)
 |0,w,s,hs,h2,hf=>by omega
 |f+1,w,s,hs,h2,hf=>by
  unfold pF
  refine Y1 s (λhe=> ?_)
  have h3:=(tw he).2
  exact Y0 hL hG (o:=s.bS+1) (λw t ht ho=>⟨I7 hL f w t ht om (by push_cast at hf;omega),Gv hL hG f w t ht om (by push_cast at hf;omega)⟩) w _ (tz hs h2) (pK s)
theorem Ml {L:List bJ} (hL:ee L) (hG:fZ L) {s:RS} (hs:cP L s) (ho:s.bS=0):PJ s (gq L s):=Gv hL hG 201 0 s hs om om
structure UI (L:List bJ) (s s':RS):Prop where
 cd:cP L s'
 bS:s'.bS=s.bS
 up:s.at_<=s'.at_
 err:s'.err=0->s.err=0
variable {L:List bJ}
theorem UI.refl {s:RS} (h:cP L s):UI L s s:=⟨h,rfl,A3 _,id⟩
theorem UI.trans {s s2 s3:RS} (h:UI L s s2) (k:UI L s2 s3):UI L s s3:=⟨k.cd,k.bS.trans h.bS,An h.up k.up,λe=>h.err (k.err e)⟩
theorem PI.ui {s:RS} {x:PR} (h:PI L s x):UI L s x.2:=⟨h.cd,h.bS,h.up,λe=>(h.err e).1⟩
theorem yC (hL:ee L) (w:afE) {s:RS} (h:cP L s):UI L s (zV L w s):=⟨tq hL h,BO w s,BN w s,λe=>(uS e).1⟩
theorem mI (hL:ee L) {s:RS} (h:cP L s):UI L s (yN L s).2:=⟨QM hL h,QO s,QN s,λe=>(Mj e).1⟩
theorem yW (hL:ee L) {s:RS} (h:cP L s) (hi:cC L w s):UI L s (zJ s):=⟨h.next hL hi,rfl,by simp[zJ],id⟩
theorem Q1 (e p:Int) {s:RS} (h:cP L s) (he:e≠0):UI L s (wL e p s):=⟨Mh h e p,Gq e p s,by rw[Gp];exact A3 _,λq=>absurd q (BK he)⟩
theorem Mm (hL:ee L) {s:RS} (h:cP L s):UI L s (fR L s).2:=by
 unfold fR
 split
 .rename_i hb
  unfold lL at hb
  simp only[A6,afh]at hb
  exact⟨hL.next h (by rw[hb.2];decide),rfl,by simp[zJ],id⟩
 .exact Q1 _ _ h dc
def ir (L:List bJ) (n fC:Int) (b:Bool) (s:RS):RS:=if s.err=0/\fC<=n then wL (if b=true then 3 else 13) (bV L s).place s else s
theorem rV {fC:Int} {b:Bool} {s:RS} (h:cP L s):UI L s (ir L n fC b s):=by
 unfold ir
 split
 .exact Q1 _ _ h (by split<;>decide)
 .exact UI.refl h
theorem tC {fC:Int} {b:Bool} {s:RS} (h:(ir L n fC b s).err=0):s.err=0/\n<fC/\ir L n fC b s=s:=by
 unfold ir at h⊢
 split at h
 .exact absurd h (BK (by split<;>decide))
 .rename_i hc
  rw[afa hc]
  refine⟨h, ?_,rfl⟩
  by_cases q:fC<=n
  .exact absurd ⟨h,q⟩ hc
  .omega
theorem Gw (L:List bJ) (hL:ee L) (s:RS) (hs:cP L s) (n fC:Int) (b:Bool):bK prog 72 [.ptr 0 0,.int .i64 n,.int .i64 fC,.bool b] [rB L s] (λr U=>r= .bool ((ir L n fC b s).err==0)/\U= [rB L (ir L n fC b s)]):=by
 have ht:=mG L hL s hs
 have ae:=yd L s 3 (bV L s).place
 have ad:=yd L s 13 (bV L s).place
 have hM:ir L n fC b s=if s.err=0/\fC<=n then(if b=true then wL 3 (bV L s).place s else wL 13 (bV L s).place s)else s:=by unfold ir;cases b<;>rfl
 generalize ir L n fC b s=M at hM⊢
 have e3:(wL 3 (bV L s).place s).err≠0:=BK dc
 have af:(wL 13 (bV L s).place s).err≠0:=BK dc
 generalize wL 3 (bV L s).place s=f3 at*
 generalize wL 13 (bV L s).place s=f13 at*
 refine iW 1 func72 ntmps72 results72 λc hc hb=>zL ?_
 simp[go_sem,rB]
 by_cases q1:s.err=0
 rotate_left
 .have aa:(s.err==0)=false:=sU q1
  rw[afa (λh=>q1 h.1)]at hM
  simp[go_sem,aa]
  exact xF (L:=L) (s:=s) (zC rfl) ⟨by rw[hM,aa],by rw[hM];rfl⟩
 have aa:(s.err==0)=true:=sU q1
 by_cases q2:fC<=n
 rotate_left
 .have ab:decide (fC<=n)=false:=afc q2
  rw[afa (λh=>q2 h.2)]at hM
  simp[go_sem,aa,ab]
  exact xF (L:=L) (s:=s) (zC rfl) ⟨by rw[hM,aa],by rw[hM];rfl⟩
 have ab:decide (fC<=n)=true:=afd q2
 rw[afb ⟨q1,q2⟩]at hM
 simp[go_sem,aa,ab]
 refine(A4 b).elim (λq=> ?_) (λq=> ?_)
 .rw[afb q]at hM
  have ag:(f3.err==0)=false:=sU e3
  subst q
  simp[go_sem]
  refine pR ht ?_
  simp[go_sem]
  refine pR ae ?_
  simp[go_sem,rB]
  exact xF (L:=L) (s:=f3) (zC rfl) ⟨by rw[hM],by rw[hM];rfl⟩
 .rw[afa (by rw[q];decide)]at hM
  subst q
  simp[go_sem]
  refine pR ht ?_
  simp[go_sem]
  refine pR ad ?_
  simp[go_sem,rB]
  exact xF (L:=L) (s:=f13) (zC rfl) ⟨by rw[hM],by rw[hM];rfl⟩
def uV:afE:= [67,79,85,78,84]
def lO:afE:= [83,85,77]
def Jc:List afE:= [[45],[40],[78,79,84],[84,82,85,69],[70,65,76,83,69],[78,85,76,76]]
def gW (L:List bJ) (item:Bool) (s:RS):Bool:=
 ((bV L s).kind==2||((bV L s).kind==3||((bV L s).kind==1&&j8 (bV L s).s)))||((item&&(cC L uV s||cC L lO s))|| !(dm L s Jc== []))
theorem Q2 (L:List bJ) (hL:ee L) (s:RS) (hs:cP L s) (item:Bool):bK prog 209 [.ptr 0 0,.bool item] [rB L s] (λr U=>r= .bool (gW L item s)/\U= [rB L s]):=by
 have ht:=mG L hL s hs
 have h1:=iM L hL s hs uV
 have h2:=iM L hL s hs lO
 have h3:=ye L hL s hs Jc dc
 have ab:=hL.uQ _ (EB hs)
 have hw:=Mg (bV L s).s ab
 generalize hM:gW L item s=M
 unfold gW at hM
 generalize cC L uV s=c1 at h1 hM
 generalize cC L lO s=c2 at h2 hM
 generalize dm L s Jc=a at h3 hM
 generalize j8 (bV L s).s=b at hw hM
 have ad:(a != [])= !a.isEmpty:=by cases a<;>rfl
 have aa:(a== [])=a.isEmpty:=by cases a<;>rfl
 rw[aa]at hM
 have ret: ∀(r:Bool) (τ:St),r=M->cj (some (.bool r)) 1 (λr U=>r= .bool M/\U= [rB L s]) (rB L s::τ):=λr τ h=>by subst h;exact xF (zC rfl) ⟨rfl,rfl⟩
 refine iW 1 func209 ntmps209 results209 λc hc hb=>zL ?_
 simp[go_sem]
 refine pR ht ?_
 simp[go_sem]
 repeat' (first
  |(refine xD (λq=> ?_) (λq=> ?_)<;>simp[go_sem,q])
  |(refine zS (λq=> ?_) (λq=> ?_)<;>simp[go_sem,q])
  |(refine pC hw ?_;simp[go_sem])
  |(refine pR h1 ?_;simp[go_sem])
  |(refine pR h2 ?_;simp[go_sem])
  |(refine pR h3 ?_;simp[go_sem]))
 all_goals exact ret _ _ (by rw[<-hM];simp_all)
variable {L:List bJ}
def uW:afE:= [87,72,69,82,69]
def lP (L:List bJ) (s:RS):RS:=if cC L uW s=true then(gq L (zJ s)).2 else s
def jo (e:bH):List V:= [.int .i64 e.kind,.str e.s,.int .i64 e.v.kind,.int .i64 e.v.n,.str e.v.s,.sl .ro (e.args.map bH.row)]
def Jd (L:List bJ) (s:RS) (a b:List V) (o:Ob):Ob:=if cC L uW s=true then .box (a++ [.bool true]++jo (gq L (zJ s)).1++b)else o
theorem tD (hL:ee L) {s:RS} (h:cP L s) (ho:s.bS=0):UI L s (gq L s).2:=(Mk hL h ho).ui
theorem EE (hL:ee L) {s:RS} (h:cP L s) (ho:s.bS=0):UI L s (lP L s):=by
 unfold lP
 split
 .rename_i hi
  exact(yW hL h hi).trans (tD hL (h.next hL hi) ho)
 .exact UI.refl h
theorem Y2 (L:List bJ) (hL:ee L) (s:RS) (hs:cP L s) (ho:s.bS=0) (τ:St) (j:Nat) (c0 c1 c2 c3 c4 c5 c6 c7 c8 c9 af ag ab ad ae:V) (hj:τ[j]? =some (.box [c0,c1,c2,c3,c4,c5,c6,c7,c8,c9,af,ag,ab,ad,ae])):
  bK prog 139 [.ptr 0 0,.ptr (j+1) 0] (rB L s::τ) (λr U=>r= .cm []/\U=rB L (lP L s)::τ.set j (Jd L s [c0,c1,c2,c3,c4] [ab,ad,ae] (.box [c0,c1,c2,c3,c4,c5,c6,c7,c8,c9,af,ag,ab,ad,ae]))):=by
 have aj:=(A1.1 hj).1
 have ah:=(A1.1 hj).2
 unfold lP Jd
 refine bK.intro (τ.length+1) func139 ntmps139 results139 rfl rfl (Cb rfl) λc hc hb=>zL ?_
 by_cases q:cC L uW s=true
 .rw[afb q,afb q]
  have aa:=xK L hL s hs _ q
  have ai:=rU L hL (zJ s) (hs.next hL q) ho
  generalize gq L (zJ s)=y at ai⊢
  simp[go_sem]
  refine pR aa ?_
  simp[go_sem]
  refine jy ai cB fb ?_
  simp[go_sem,bH.bN,ah,aj]
  refine Lg ?_ ⟨rfl, ?_⟩
  .simp
  .simp[go_sem,jo]
 .have q:cC L uW s=false:=sU q
  have aa:=wO L hL s hs _ q
  rw[afa (by rw[q];decide),afa (by rw[q];decide)]
  simp[go_sem]
  refine pR aa ?_
  simp[go_sem]
  refine Lg sm ⟨rfl, ?_⟩
  rw[<-ah,List.set_getElem_self]
def kS (L:List bJ) (s:RS):cx×RS:=
 if cC L uV s=true then(⟨3,dh⟩,zV L [41] (zV L [42] (zV L [40] (zJ s))))
 else if cC L lO s=true then(⟨4,(gq L (zV L [40] (zJ s))).1⟩,zV L [41] (gq L (zV L [40] (zJ s))).2)
 else(⟨2,(gq L s).1⟩,(gq L s).2)
def nX (L:List bJ):Nat->List cx->RS->List cx×RS
 |0,l,s=>(l,s)
 |n+1,l,s=>
  if(ir L l.length 6 (gW L true s) s).err=0 then
   (if cC L [44] (kS L s).2=true then nX L n (l++ [(kS L s).1]) (zJ (kS L s).2)else(l++ [(kS L s).1],(kS L s).2))
  else(l,ir L l.length 6 (gW L true s) s)
def nq (L:List bJ) (s:RS):List cx×RS:=if cC L [42] s=true then([⟨1,dh⟩],zJ s)else nX L 7 [] s
theorem Mn (hL:ee L) {s:RS} (h:cP L s) (ho:s.bS=0):UI L s (kS L s).2:=by
 unfold kS
 split
 .rename_i hi
  have h1:=yW hL h hi
  have h2:=h1.trans (yC hL [40] h1.cd)
  have h3:=h2.trans (yC hL [42] h2.cd)
  exact h3.trans (yC hL [41] h3.cd)
 split
 .rename_i hi
  have h1:=yW hL h hi
  have h2:=h1.trans (yC hL [40] h1.cd)
  have h3:=h2.trans (tD hL h2.cd (h2.bS.trans ho))
  exact h3.trans (yC hL [41] h3.cd)
 .exact tD hL h ho
theorem Y3 {τ:St} {l:List cx} {s:RS} {g:Tag} {M:List cx×RS} (h:(l,s)=M):cj (some (.sl g (l.map cx.row))) 1 (λr U=>r= .sl .ro (M.1.map cx.row)/\U= [rB L M.2]) (rB L s::τ):=by
 subst h
 exact xF zK ⟨rfl,rfl⟩
theorem Y4 (L:List bJ) (hL:ee L) (s0:RS) (al:cP L s0) (aw:s0.bS=0):bK prog 208 [.ptr 0 0] [rB L s0] (λr U=>r= .sl .ro ((nq L s0).1.map cx.row)/\U= [rB L (nq L s0).2]):=by
 generalize hM:nq L s0=M
 unfold nq at hM
 refine iV 1 func208 ntmps208 results208 λc hc hb=> ?_
 refine zA ?_
 simp[go_sem]
 by_cases q0:cC L [42] s0=true
 .rw[afb q0]at hM
  refine pR (xK L hL s0 al _ q0) ?_
  simp[go_sem]
  refine xF (r:= .sl .ro ([(⟨1,dh⟩:cx)].map cx.row)) ?_ ⟨by rw[<-hM],by rw[<-hM]⟩
  exact zK
 have q0:cC L [42] s0=false:=sU q0
 rw[afa (by rw[q0];decide)]at hM
 refine pR (wO L hL s0 al _ q0) ?_
 simp[go_sem]
 refine rL 3 7 dc sg ?_
 refine zH (S:=List cx×RS) [0,3] (λu=> [.ptr 0 0,.sl (.app 1) (u.1.map cx.row)]) (λu=> [rB L u.2,.app u.1.length 7]) (λu=>7 - u.1.length) (λu=>u.1.length<=6/\UI L s0 u.2/\nX L (7 - u.1.length) u.1 u.2=M) hc hb ([],s0) ⟨A5 _,UI.refl al,hM⟩ ?_ ?_
 .exact aN 2 (by simp[rB,bP,cK,cG])
 rintro⟨l,s⟩ ⟨hl,hu,hinv⟩
 simp only at hl hu hinv
 have hs:=hu.cd
 have ho:=hu.bS.trans aw
 have ae:=Q2 L hL s hs true
 have ab:=Gw L hL s hs l.length 6 (gW L true s)
 have an:=tC (L:=L) (n:=l.length) (fC:=6) (b:=gW L true s) (s:=s)
 rw[show 7 - l.length=(6 - l.length)+1 by omega,nX]at hinv
 generalize gW L true s=bg at ae ab an hinv
 generalize ir L l.length 6 bg s=m at ab an hinv
 by_cases q:m.err=0
 rotate_left
 .have q':(m.err==0)=false:=sU q
  rw[afa q]at hinv
  rw[q']at ab
  refine zA ?_
  simp[go_sem]
  refine pR ae ?_
  simp[go_sem]
  refine pR ab ?_
  simp[go_sem]
  exact Y3 hinv
 have q':(m.err==0)=true:=sU q
 obtain⟨he,ax,rfl⟩:=an q
 rw[afb q]at hinv
 rw[q']at ab
 have ak:=Mn hL hs ho
 have ad:=hu.trans ak
 generalize hit:kS L m=it at hinv ak ad
 unfold kS at hit
 have aa: ∀b,cC L [44] it.2=b->bK prog 74 [.ptr 0 0,.str [44]] [rB L it.2] (λr U=>r= .bool b/\U= [rB L (if b=true then zJ it.2 else it.2)]):=λb hb=>by
  cases b with
  |true=>exact xK L hL it.2 ad.cd _ hb
  |false=>exact wO L hL it.2 ad.cd _ hb
 by_cases q1:cC L uV m=true
 .rw[afb q1]at hit
  have ah:=hs.next hL q1
  have ai:=kQ L hL _ ah [40]
  have af:=tq hL (w:= [40]) ah
  generalize zV L [40] (zJ m)=u1 at ai af hit
  have ao:=kQ L hL _ af [42]
  have aq:=tq hL (w:= [42]) af
  generalize zV L [42] u1=u2 at ao aq hit
  have aj:=kQ L hL _ aq [41]
  generalize zV L [41] u2=u3 at aj hit
  subst hit
  simp only at hinv ad aa
  refine zA ?_
  simp[go_sem]
  refine pR ae ?_
  simp[go_sem]
  refine pR ab ?_
  simp[go_sem]
  refine pR (xK L hL m hs _ q1) ?_
  simp[go_sem]
  refine pR ai ?_
  simp[go_sem]
  refine pR ao ?_
  simp[go_sem]
  refine pR aj ?_
  simp[go_sem]
  refine zI ⟨om,zX rfl⟩ ?_
  simp[go_sem]
  refine(A4 (cC L [44] u3)).elim (λq2=> ?_) (λq2=> ?_)
  .rw[afb q2]at hinv
   refine pR (aa true q2) ?_
   simp[go_sem]
   refine zG (l++ [⟨3,dh⟩],zJ u3) ⟨by simp;omega,⟨by simp;omega,ad.trans (yW hL ad.cd q2),by simp only[Ah,Bf,show 7 - (l.length+1)=6 - l.length by omega];exact hinv⟩, ?_⟩
   exact aM 2 (by simp[rB,bP,cK,cG]) (zD (by simp[go_sem]<;>exact⟨rfl,rfl,rfl,rfl,rfl,rfl⟩) rfl)
  .rw[afa (by rw[q2];decide)]at hinv
   refine pR (aa false q2) ?_
   simp[go_sem]
   exact xF (L:=L) zK ⟨by rw[<-hinv];simp[cx.row]<;>exact⟨rfl,rfl,rfl,rfl,rfl,rfl⟩,by rw[<-hinv]⟩
 have q1:cC L uV m=false:=sU q1
 rw[afa (by rw[q1];decide)]at hit
 by_cases ag:cC L lO m=true
 .rw[afb ag]at hit
  have ah:=hs.next hL ag
  have ai:=kQ L hL _ ah [40]
  have af:=tq hL (w:= [40]) ah
  have ar:=BO (L:=L) [40] (zJ m)
  generalize zV L [40] (zJ m)=u1 at ai af ar hit
  have au:u1.bS=0:=by rw[ar];exact ho
  have hx:=rU L hL u1 af au
  have av:=(Mk hL af au).cd
  generalize gq L u1=x at hx av hit
  have aj:=kQ L hL _ av [41]
  generalize zV L [41] x.2=u3 at aj hit
  subst hit
  simp only at hinv ad aa
  refine zA ?_
  simp[go_sem]
  refine pR ae ?_
  simp[go_sem]
  refine pR ab ?_
  simp[go_sem]
  refine pR (wO L hL m hs _ q1) ?_
  simp[go_sem]
  refine pR (xK L hL m hs _ ag) ?_
  simp[go_sem]
  refine pR ai ?_
  simp[go_sem]
  refine jy hx cB fb ?_
  simp[go_sem,bH.bN]
  refine pR aj ?_
  simp[go_sem]
  refine zI ⟨om,zX rfl⟩ ?_
  simp[go_sem]
  refine(A4 (cC L [44] u3)).elim (λq2=> ?_) (λq2=> ?_)
  .rw[afb q2]at hinv
   refine pR (aa true q2) ?_
   simp[go_sem]
   refine zG (l++ [⟨4,x.1⟩],zJ u3) ⟨by simp;omega,⟨by simp;omega,ad.trans (yW hL ad.cd q2),by simp only[Ah,Bf,show 7 - (l.length+1)=6 - l.length by omega];exact hinv⟩, ?_⟩
   exact aM 2 (by simp[rB,bP,cK,cG]) (zD (by simp[go_sem]<;>exact⟨rfl,rfl,rfl,rfl,rfl,rfl⟩) rfl)
  .rw[afa (by rw[q2];decide)]at hinv
   refine pR (aa false q2) ?_
   simp[go_sem]
   exact xF (L:=L) zK ⟨by rw[<-hinv];simp[cx.row]<;>exact⟨rfl,rfl,rfl,rfl,rfl,rfl⟩,by rw[<-hinv]⟩
 have ag:cC L lO m=false:=sU ag
 rw[afa (by rw[ag];decide)]at hit
 .have hx:=rU L hL m hs ho
  generalize gq L m=x at hx hit
  subst hit
  simp only at hinv ad aa
  refine zA ?_
  simp[go_sem]
  refine pR ae ?_
  simp[go_sem]
  refine pR ab ?_
  simp[go_sem]
  refine pR (wO L hL m hs _ q1) ?_
  simp[go_sem]
  refine pR (wO L hL m hs _ ag) ?_
  simp[go_sem]
  refine jy hx cB fb ?_
  simp[go_sem,bH.bN]
  refine zI ⟨om,zX rfl⟩ ?_
  simp[go_sem]
  refine(A4 (cC L [44] x.2)).elim (λq2=> ?_) (λq2=> ?_)
  .rw[afb q2]at hinv
   refine pR (aa true q2) ?_
   simp[go_sem]
   refine zG (l++ [⟨2,x.1⟩],zJ x.2) ⟨by simp;omega,⟨by simp;omega,ad.trans (yW hL ad.cd q2),by simp only[Ah,Bf,show 7 - (l.length+1)=6 - l.length by omega];exact hinv⟩, ?_⟩
   exact aM 2 (by simp[rB,bP,cK,cG]) (zD (by simp[go_sem]<;>exact⟨rfl,rfl,rfl,rfl,rfl,rfl⟩) rfl)
  .rw[afa (by rw[q2];decide)]at hinv
   refine pR (aa false q2) ?_
   simp[go_sem]
   exact xF (L:=L) zK ⟨by rw[<-hinv];simp[cx.row]<;>exact⟨rfl,rfl,rfl,rfl,rfl,rfl⟩,by rw[<-hinv]⟩
end Go.Proofs.YtefbicjgbaaieaaGreat
