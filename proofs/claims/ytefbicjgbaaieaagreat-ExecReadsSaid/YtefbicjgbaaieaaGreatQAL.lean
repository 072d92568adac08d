/-
  The document's reader of expressions: the walks of its chains, over trees (the library Vx); used by the theorem at the end of the claim.
  Conditions: as each theorem states them.
-/
import Derived.Test.YtefbicjgbaaieaaGreatQAG
import Derived.Test.YtefbicjgbaaieaaGreatQAH
set_option maxHeartbeats 8000000
namespace Go.Proofs.YtefbicjgbaaieaaGreat
open Go Go.Vx Go.Proofs.Tryz
set_option maxRecDepth 100000
variable{τ:St}{P:Program}{c:Ctx}{f:FuncId}{caps:List V}{args':List V}{KV:V->St->Prop}
def xf0(s:List UInt8):List UInt8:=if s=[60]then[62]else if s=[60,61]then[62,61]else if s=[62]then[60]else if s=[62,61]then[60,61]else s
theorem xD8(s:List UInt8):Pure prog 180 [.str s] (.str (xf0 s)):=by
 generalize hM:xf0 s=M;have ret:∀(r:List UInt8)(σ:St),r=M->wret (some (.str r)) 0 (λr s=>r=.str M/\s=[]) σ:=λr σ h=>by subst h;exact wR
 unfold xf0 at hM;refine iW 0 func180 ntmps180 results180 λc hc hb=>zO ?_;simp[go_sem];repeat'(first|(refine zY (λq=>?_) (λq=>?_)<;>simp[go_sem,q])|(refine zN (λq=>?_) (λq=>?_)<;>simp[go_sem,q]))
 all_goals exact ret _ _ (by simp_all)
def zo3(s:List UInt8):Bool:=s==[65,78,68]||s==[79,82]||s==[78,79,84]
def zn7(s:List UInt8):Bool:=s==[43]||s==[45]||s==[42]||s==[47]||s==[37]||s==[78,69,71]
theorem xL3(s:List UInt8):Pure prog 311 [.str s] (.bool (zo3 s)):=by
 generalize hM:zo3 s=M;have ret:∀(r:Bool)(σ:St),r=M->wret (some (.bool r)) 0 (λr s=>r=.bool M/\s=[]) σ:=λr σ h=>by subst h;exact wR
 unfold zo3 at hM;refine iW 0 func311 ntmps311 results311 λc hc hb=>zO ?_;simp[go_sem];repeat'(first|(refine zY (λq=>?_) (λq=>?_)<;>simp[go_sem,q])|(refine zN (λq=>?_) (λq=>?_)<;>simp[go_sem,q]))
 all_goals exact ret _ _ (by simp_all)
theorem xH7(s:List UInt8):Pure prog 312 [.str s] (.bool (zn7 s)):=by
 generalize hM:zn7 s=M;have ret:∀(r:Bool)(σ:St),r=M->wret (some (.bool r)) 0 (λr s=>r=.bool M/\s=[]) σ:=λr σ h=>by subst h;exact wR
 unfold zn7 at hM;refine iW 0 func312 ntmps312 results312 λc hc hb=>zO ?_;simp[go_sem];repeat'(first|(refine zY (λq=>?_) (λq=>?_)<;>simp[go_sem,q])|(refine zN (λq=>?_) (λq=>?_)<;>simp[go_sem,q]))
 all_goals exact ret _ _ (by simp_all)
def opsTwo:List (List UInt8):=[[79,82],[65,78,68],[61],[60,62],[60],[60,61],[62],[62,61],[43],[45],[42],[47],[37]]
def opsOne:List (List UInt8):=[[78,79,84],[73,83,78,85,76,76],[78,79,84,78,85,76,76],[78,69,71]]
def za7(s:List UInt8):Int:=if opsTwo.contains s=true then 2 else if opsOne.contains s=true then 1 else 0
theorem xp9(s:List UInt8):Pure prog 310 [.str s] (.int .i64 (za7 s)):=by
 generalize hM:za7 s=M;have ret:∀(r:Int)(σ:St),r=M->wret (some (.int .i64 r)) 0 (λr s=>r=.int .i64 M/\s=[]) σ:=λr σ h=>by subst h;exact wR
 unfold za7 opsTwo opsOne at hM;simp only[Dt,List.contains_nil]at hM;refine iW 0 func310 ntmps310 results310 λc hc hb=>zO ?_;simp[go_sem];repeat'(first|(refine zY (λq=>?_) (λq=>?_)<;>simp[go_sem,q])|(refine zN (λq=>?_) (λq=>?_)<;>simp[go_sem,q]))
 all_goals exact ret _ _ (by simp_all)
def zA3(b:Bool):GValue:=⟨1,if b then 1 else 0,[]⟩
theorem zL8(b:Bool):Pure prog 226 [.bool b] (.agg (zA3 b).row):=by refine iW 0 func226 ntmps226 results226 λc hc hb=>zO ?_;simp[go_sem];cases b<;>simp[go_sem]<;>exact wR
theorem yz6(v:GValue):Pure prog 314 [.agg v.row] (.bool (v.kind==0)):=by refine iW 0 func314 ntmps314 results314 λc hc hb=>zO ?_;simp[go_sem];exact wR
theorem yc1(k w:Int):Pure prog 102 [.int .i64 k,.int .i64 w] (.bool (k==w||k==0)):=by
 refine iW 0 func102 ntmps102 results102 λc hc hb=>zO ?_;simp[go_sem];repeat'(first|(refine zY (λq=>?_) (λq=>?_)<;>simp[go_sem,q])|(refine zN (λq=>?_) (λq=>?_)<;>simp[go_sem,q]))
 all_goals exact wA (zD rfl) ⟨by simp_all,rfl⟩
def zN6(many such:Bool)(k:Int):Int×Int:=if many=false then(0,9)else if such=false then(0,15)else(k,0)
def yL(r:Int×Int):V:=.tup [.int .i64 r.1,.int .i64 r.2]
theorem wZ{r:Int×Int}{a e:Int}{σ:St}(h:r=(a,e)):wret (some (.tup [.int .i64 a,.int .i64 e])) 0 (λv s=>v=yL r/\s=[]) σ:=by subst h;exact wR
theorem yC2(many aa:Bool)(k:Int):Pure prog 347 [.bool many,.bool aa,.int .i64 k] (yL (zN6 many aa k)):=by refine iW 0 func347 ntmps347 results347 λc hc hb=>zO ?_;cases many<;>cases aa<;>simp[go_sem]<;>exact wZ rfl
def allK(l:List Int)(k:Int):Bool:=l.all λx=>x==k||x==0
theorem yY5(l:List Int)(k:Int)(hl:l.length<=maxLen):Pure prog 348 [.sl .ro (l.map λn=>[V.int .i64 n]),.int .i64 k] (.bool (allK l k)):=by
 generalize hM:allK l k=M;have ret:∀(r:Bool)(σ:St),r=M->wret (some (.bool r)) 0 (λr s=>r=.bool M/\s=[]) σ:=λr σ h=>by subst h;exact wR
 unfold allK at hM;refine iV 0 func348 ntmps348 results348 λc hc hb=>?_;refine zA ?_;simp[go_sem];refine zH (S:=Nat) [1,7,8,9] (λi=>[.int .i64 k,.sl .ro (l.map λn=>[V.int .i64 n]),.int .i64 l.length,.int .i64 i]) (λ_=>[]) (λi=>l.length-i) (λi=>i<=l.length/\((l.drop i).all λx=>x==k||x==0)=M) hc hb 0 ⟨A2 _,hM⟩ ?_ ?_;.exact aO
 rintro i⟨hi,hinv⟩;by_cases q:i<l.length;rotate_left;.have e:l.drop i=[]:=A9 om;rw[e]at hinv;refine zA ?_;simp[go_sem,q];exact ret _ _ hinv
 have ei:=zS q (by unfold maxLen at hl;omega);obtain⟨r,hr⟩:=eX (l[i]);rw[A5 q,Ap,hr]at hinv;refine zA ?_;simp[go_sem,q,hr];by_cases w1:r=k;.simp[go_sem,w1,ei];rw[w1,beq_self_eq_true,De,Ar]at hinv;exact zG (i+1) ⟨om,⟨q,hinv⟩,aO⟩
 have aa:(r !=k)=true:=by simpa using w1
 by_cases w2:r=0
 .have w3:(r !=0)=false:=by simp[w2]
  simp[go_sem,aa,w3,ei];rw[w2,beq_self_eq_true,Eo,Ar]at hinv;exact zG (i+1) ⟨om,⟨q,hinv⟩,aO⟩
 have ab:(r !=0)=true:=by simpa using w2
 simp[go_sem,aa,ab];exact ret _ _ (by rw[<-hinv,show(r==k)=false by simpa using w1,show(r==0)=false by simpa using w2];rfl)
def zr8(s:List UInt8)(l:List Int):Int×Int:=if s=[73,83,78,85,76,76]∨s=[78,79,84,78,85,76,76]then zN6 ((l.length:Int)==1) true 1 else if s=[78,79,84]then zN6 ((l.length:Int)==1) (allK l 1) 1 else if s=[78,69,71]then zN6 ((l.length:Int)==1) (allK l 2) 2 else if s=[79,82]∨s=[65,78,68]then zN6 ((l.length:Int)==2) (allK l 1) 1 else if s=[43]∨s=[45]∨s=[42]∨s=[47]∨s=[37]then zN6 ((l.length:Int)==2) (allK l 2) 2 else if s=[61]∨s=[60,62]∨s=[60]∨s=[60,61]∨s=[62]∨s=[62,61]then zN6 ((l.length:Int)==2) ((l.length:Int)==2&&(l.getD 0 0==l.getD 1 0||(l.getD 0 0==0||l.getD 1 0==0))) 1 else(0,9)
theorem yL4(s:List UInt8)(x y:Int):Pure prog 313 [.str s,.sl .ro [[.int .i64 x],[.int .i64 y]]] (yL (zr8 s [x,y])):=by
 generalize hM:zr8 s [x,y]=M;have ret:∀(r:Int×Int)(σ:St),r=M->wret (some (.tup [.int .i64 r.1,.int .i64 r.2])) 0 (λr s=>r=yL M/\s=[]) σ:=λr σ h=>by subst h;exact wR
 unfold zr8 at hM;have h1:=yY5 [x,y] 1 (by unfold maxLen;simp);have h2:=yY5 [x,y] 2 (by unfold maxLen;simp);simp only[Al,Bs]at h1 h2;generalize allK [x,y] 1=a1 at h1 hM;generalize allK [x,y] 2=a2 at h2 hM;simp only[List.getD_cons_zero,List.getD_cons_succ]at hM;refine iW 0 func313 ntmps313 results313 λc hc hb=>zO ?_;simp[go_sem];repeat'(first |(refine zN (λq=>?_) (λq=>?_)<;>simp[go_sem,q])|(refine zY (λq=>?_) (λq=>?_)<;>simp[go_sem,q])|(refine yU [(23,0)] 0 rfl kR kR ?_;simp[go_sem])|(refine pC h1 ?_;simp[go_sem])|(refine pC h2 ?_;simp[go_sem])|(refine pC (yC2 _ _ _) ?_;simp[go_sem,yL])|(refine pD (yC2 _ _ _) ?_;simp[go_sem,yL]))
 all_goals first|exact ret _ _ (by simp_all)|exact ret (0,9) _ (by simp_all)
theorem yL5(s:List UInt8)(l:List Int)(hl:l.length<=maxLen)(hn:((l.length:Int)==2)=false):Pure prog 313 [.str s,.sl .ro (l.map λn=>[V.int .i64 n])] (yL (zr8 s l)):=by
 generalize hM:zr8 s l=M;have ret:∀(r:Int×Int)(σ:St),r=M->wret (some (.tup [.int .i64 r.1,.int .i64 r.2])) 0 (λr s=>r=yL M/\s=[]) σ:=λr σ h=>by subst h;exact wR
 unfold zr8 at hM;have h1:=yY5 l 1 hl;have h2:=yY5 l 2 hl;generalize allK l 1=a1 at h1 hM;generalize allK l 2=a2 at h2 hM;simp only[hn,C7]at hM;refine iW 0 func313 ntmps313 results313 λc hc hb=>zO ?_;simp[go_sem];repeat'(first |(refine zN (λq=>?_) (λq=>?_)<;>simp[go_sem,q,hn])|(refine yU [(23,0)] 0 rfl kR kR ?_;simp[go_sem])|(refine pC h1 ?_;simp[go_sem])|(refine pC h2 ?_;simp[go_sem])|(refine pC (yC2 _ _ _) ?_;simp[go_sem,yL])|(refine pD (yC2 _ _ _) ?_;simp[go_sem,yL]))
 all_goals first|exact ret _ _ (by simp_all)|exact ret (0,9) _ (by simp_all)
theorem yU2(s:List UInt8)(l:List Int)(hl:l.length<=maxLen):Pure prog 313 [.str s,.sl .ro (l.map λn=>[V.int .i64 n])] (yL (zr8 s l)):=by
 by_cases h:l.length=2;.match l,h with|[x,y],_=>exact yL4 s x y
 .exact yL5 s l hl (by simpa using(show¬(l.length:Int)=2by omega))
theorem zh2{ρ:Nat->Nat}{g:Tag}{rows rows':List (List V)}(h:rows'=rows):argS ρ (.sl .ro rows') (.sl g rows):=by subst h;exact zQ
theorem yC5{n:Int}(h:0<=n)(h2:n<=255):IntKind.u8.wrap n=n:=by unfold IntKind.wrap;simp[IntKind.bits,IntKind.signed];omega
def yF(c:UInt8):UInt8:=if 97<=c.toNat/\c.toNat<=122then UInt8.ofNat (c.toNat-32)else c
def wU(c:UInt8):Bool:=decide (48<=c.toNat/\c.toNat<=57)
def za9(c:UInt8):Bool:=decide (65<=(yF c).toNat/\(yF c).toNat<=90)||decide (c.toNat=95)
theorem yy2(c:UInt8):Pure prog 205 [.int .u8 c.toNat] (.int .u8 (yF c).toNat):=by
 have hc:=c.toNat_lt;have ret:∀(r:Int)(σ:St),r=((yF c).toNat:Int)->wret (some (.int .u8 r)) 0 (λr s=>r=.int .u8 (yF c).toNat/\s=[]) σ:=λr σ h=>by subst h;exact wR
 unfold yF at ret⊢;obtain⟨n,hn⟩:=eX c.toNat;have aa:n<=255->(UInt8.ofNat (n-32)).toNat=n-32:=λh=>by rw[UInt8.toNat_ofNat'];exact Cn om
 rw[hn]at hc ret⊢;refine iW 0 func205 ntmps205 results205 λc hc hb=>zO ?_;simp[go_sem];refine zY (λq=>?_) (λq=>?_)
 .have q1:97<=n:=by simp at q;omega
  simp[go_sem,q];refine zN (λq2=>?_) (λq2=>?_)
  .have q2:n<=122:=by simp at q2;omega
   have e1:IntKind.u8.wrap ((n:Int)-97)=(n:Int)-97:=yC5 om om;have e2:IntKind.u8.wrap ((n:Int)-97+65)=(n:Int)-97+65:=yC5 om om;simp[go_sem,e1,e2];exact ret _ _ (by rw[if_pos ⟨q1,q2⟩,aa om];omega)
  .have q2:¬n<=122:=by simp at q2;omega
   simp[go_sem];exact ret _ _ (by rw[if_neg (λh=>q2 h.2),hn])
 .have q1:¬97<=n:=by simp at q;omega
  simp[go_sem,q];exact ret _ _ (by rw[if_neg (λh=>q1 h.1),hn])
theorem zw8(c:UInt8):Pure prog 204 [.int .u8 c.toNat] (.bool (wU c)):=by
 unfold wU;generalize c.toNat=n;generalize hM:decide (48<=n/\n<=57)=M;have ret:∀(r:Bool)(σ:St),r=M->wret (some (.bool r)) 0 (λr s=>r=.bool M/\s=[]) σ:=λr σ h=>by subst h;exact wR
 refine iW 0 func204 ntmps204 results204 λc hc hb=>zO ?_;simp[go_sem];refine zY (λq=>?_) (λq=>?_);.simp[go_sem,q];refine ret _ _ ?_;rw[<-hM];simp at q;exact decide_eq_decide.2 om
 .simp[go_sem,q];refine ret _ _ ?_;rw[<-hM];simp at q;exact(decide_eq_false om).symm
theorem zy8(c:UInt8):Pure prog 203 [.int .u8 c.toNat] (.bool (za9 c)):=by
 have hg:=yy2 c;unfold za9;revert hg;generalize(yF c).toNat=g;generalize c.toNat=n;generalize hM:(decide (65<=g/\g<=90)||decide (n=95))=M;have ret:∀(r:Bool)(σ:St),r=M->wret (some (.bool r)) 0 (λr s=>r=.bool M/\s=[]) σ:=λr σ h=>by subst h;exact wR
 have aa:∀(a:Nat)(b:Bool),((a:Int)==95)=b->decide (a=95)=b:=λa b h=>by
  rw[<-h];by_cases q:a=95;.subst q;rfl
  .rw[decide_eq_false q];exact(beq_eq_false_iff_ne.2 om).symm
 intro hg;refine iW 0 func203 ntmps203 results203 λc hc hb=>zO ?_;simp[go_sem];refine pC hg ?_;simp[go_sem];refine zY (λq=>?_) (λq=>?_)
 .simp[go_sem,q];refine pC hg ?_;simp[go_sem];simp at q;refine zY (λq2=>?_) (λq2=>?_)
  .have q3:¬g<=90:=by simp at q2;omega
   simp[go_sem,q2];exact ret _ _ (by rw[<-hM,decide_eq_false (λh=>q3 h.2),C8];exact(aa n _ rfl).symm)
  .have q3:g<=90:=by simp at q2;omega
   simp[go_sem,q2];exact ret _ _ (by rw[<-hM,decide_eq_true ⟨om,q3⟩];rfl)
 .have q3:¬65<=g:=by simp at q;omega
  simp[go_sem,q];exact ret _ _ (by rw[<-hM,decide_eq_false (λh=>q3 h.1),C8];exact(aa n _ rfl).symm)
def resv:List (List UInt8):=[[65,76,76],[65,78,68],[65,83],[65,83,67],[66,69,84,87,69,69,78],[66,79,85,78,68],[66,89],[67,79,85,78,84],[68,69,76,69,84,69],[68,69,83,67],[69,88,65,67,84],[70,65,76,83,69],[70,82,79,77],[73,78,83,69,82,84],[73,78,84,79],[73,83],[76,73,77,73,84],[78,79,84],[78,85,76,76],[78,79,87],[79,70],[79,82],[79,82,68,69,82],[83,69,76,69,67,84],[83,69,84],[83,85,77],[83,89,83,84,69,77],[84,73,77,69],[84,82,85,69],[85,80,68,65,84,69],[86,65,76,85,69,83],[87,72,69,82,69]]
theorem zS2:resv.length=32:=rfl
theorem yQ6:Pure prog 249 [] (.sl .ro (resv.map λs=>[.str s])):=by refine iW 0 func249 ntmps249 results249 λc hc hb=>zO ?_;simp[go_sem];exact wA (zh2 (by simp[resv])) ⟨rfl,rfl⟩
def okC(c:UInt8):Bool:=(za9 c||wU c)&&(yF c==c)
def ze1(s:List UInt8):Bool:=decide (1<=s.length/\s.length<=16)&&(!wU (s.headD 0)&&(s.all okC&&!resv.contains s))
theorem zq0(s:List UInt8)(hl:s.length<=maxLen):Pure prog 170 [.str s] (.bool (ze1 s)):=by
 generalize hM:ze1 s=M;unfold ze1 at hM;have ret:∀(r:Bool)(σ:St),r=M->wret (some (.bool r)) 0 (λr s=>r=.bool M/\s=[]) σ:=λr σ h=>by subst h;exact wR
 refine iV 0 func170 ntmps170 results170 λc hc hb=>?_;refine zA ?_;simp[go_sem];by_cases h0:s.length=0
 .have ae:((s.length:Int)==0)=true:=by simpa using h0
  simp[go_sem,ae];exact ret _ _ (by rw[<-hM,decide_eq_false om];rfl)
 have ae:((s.length:Int)==0)=false:=by simpa using h0
 simp[go_sem,ae];by_cases ag:s.length<=16;rotate_left
 .have ad:decide (16<(s.length:Int))=true:=by simp;omega
  simp[go_sem,ad];exact ret _ _ (by rw[<-hM,decide_eq_false om];rfl)
 have ad:decide (16<(s.length:Int))=false:=by simp;omega
 rw[decide_eq_true ⟨om,ag⟩,Ar]at hM;have hp:0<s.length:=om;obtain⟨c0,af⟩:∃c,s[0]=c:=⟨_,rfl⟩;have ah:s.headD 0=c0:=by rw[<-af];cases s with |nil=>simp at hp|cons x l=>rfl
 rw[ah]at hM;simp[go_sem,ad,hp,af];try(refine zI om ?_;simp[go_sem])
 refine pC (zw8 c0) ?_;simp[go_sem];refine zN (λhd=>?_) (λhd=>?_);.simp[go_sem];exact ret _ _ (by rw[<-hM,hd];rfl)
 rw[hd,Bool.not_false,Ar]at hM;simp[go_sem];refine zH (S:=Nat) [0,3] (λi=>[.str s,.int .i64 i]) (λ_=>[]) (λi=>s.length-i) (λi=>i<=s.length/\(s.drop i).all okC=s.all okC) hc hb 0 ⟨A2 _,rfl⟩ ?_ ?_;.exact aO
 rintro i⟨hi,hinv⟩;refine zA ?_;simp[go_sem];refine zN (λq=>?_) (λq=>?_)
 .have q:i<s.length:=by simpa using q
  have ei:=zS q om;obtain⟨c1,aa⟩:∃c,s[i]=c:=⟨_,rfl⟩;rw[A5 q,Ap,aa]at hinv;have hok:okC c1=((za9 c1||wU c1)&&(yF c1==c1)):=rfl;have g1:=zy8 c1;have g2:=zw8 c1;have g3:=yy2 c1;have ab:(((yF c1).toNat:Int)!=(c1.toNat:Int))=!(yF c1==c1):=by
   by_cases h:yF c1=c1;.rw[h];simp
   .have:¬(yF c1).toNat=c1.toNat:=λw=>h (Et.1 w);rw[beq_eq_false_iff_ne.2 h];simp;omega
  revert hok g1 g2 g3 ab;generalize za9 c1=bl;generalize wU c1=bd;generalize ai:(yF c1==c1)=bg;generalize yF c1=cg;intro hok g1 g2 g3 ab;have bad:∀(b:Bool)(σ:St),okC c1=false->wret (some (.bool false)) 0 (λr s=>r=.bool M/\s=[]) σ:=λb σ h=>ret _ _ (by rw[<-hM,<-hinv,h];rfl);have good:okC c1=true->(s.drop (i+1)).all okC=s.all okC:=λh=>by rw[<-hinv,h,Ar]
  simp[go_sem];refine yU [(3,0),(9,0),(16,0)] 0 rfl kR kR ?_;simp[go_sem,q,aa];refine pD g1 ?_;simp[go_sem];refine(A4 bl).elim (λw=>?_) (λw=>?_)
  .simp[go_sem,w,q,aa];refine pD g3 ?_;simp[go_sem,q,aa];refine zN (λw3=>?_) (λw3=>?_);.simp[go_sem];exact bad true _ (by rw[hok,w];rw[ab]at w3;simpa using w3)
   .simp[go_sem,ei];exact zG (i+1) ⟨om,⟨q,good (by rw[hok,w];rw[ab]at w3;simpa using w3)⟩,aO⟩
  .simp[go_sem,w,q,aa];refine pD g2 ?_;simp[go_sem];refine(A4 bd).elim (λw2=>?_) (λw2=>?_)
   .simp[go_sem,w2,q,aa];refine pD g3 ?_;simp[go_sem,q,aa];refine zN (λw3=>?_) (λw3=>?_);.simp[go_sem];exact bad true _ (by rw[hok,w,w2];rw[ab]at w3;simpa using w3)
    .simp[go_sem,ei];exact zG (i+1) ⟨om,⟨q,good (by rw[hok,w,w2];rw[ab]at w3;simpa using w3)⟩,aO⟩
   .simp[go_sem,w2];exact bad true _ (by rw[hok,w,w2];rfl)
 .have q:i=s.length:=by
   have:¬i<s.length:=by simpa using q
   omega
  subst q;rw[C6,C3]at hinv;rw[<-hinv,Ar]at hM;simp[go_sem];refine pC yQ6 ?_;simp[go_sem];refine zH (S:=Nat) [0,4,5] (λi=>[.str s,.sl .ro (resv.map λs=>[.str s]),.int .i64 i]) (λ_=>[]) (λi=>32-i) (λi=>i<=32/\(resv.drop i).contains s=resv.contains s) hc hb 0 ⟨A2 _,rfl⟩ ?_ ?_;.exact aO
  rintro i⟨hi,hinv⟩;refine zA ?_;simp[go_sem,zS2];refine zN (λq=>?_) (λq=>?_)
  .have q:i<32:=by simp at q;omega
   have q2:i<resv.length:=by rw[zS2];exact q
   have ei:=zS q om;obtain⟨x,hx⟩:=eX (resv[i]);rw[A5 q2,Dt,hx]at hinv;simp[go_sem,zS2,q,hx];try(refine zI om ?_;simp[go_sem])
   refine zN (λw=>?_) (λw=>?_)
   .have w:x=s:=by simpa using w
    simp[go_sem];exact ret _ _ (by rw[<-hM,<-hinv,w];simp)
   .have w:¬x=s:=by simpa using w
    have w2:(s==x)=false:=beq_eq_false_iff_ne.2 λh=>w h.symm;rw[w2,C8]at hinv;simp[go_sem,ei];exact zG (i+1) ⟨om,⟨q,hinv⟩,aO⟩
  .have q:i=32:=by simp at q;omega
   subst q;rw[Bu (by rw[zS2];exact A3 _)]at hinv;simp[go_sem];exact ret _ _ (by rw[<-hM,<-hinv];rfl)
structure GToken where
 kind:Int
 place:Int
 s:List UInt8
 n:Int deriving DecidableEq
@[go_sem]def GToken.row(x:GToken):List V:=[.int .i64 x.kind,.int .i64 x.place,.str x.s,.int .i64 x.n]
structure RS where
 at_:Nat
 opn:Int
 err:Int
 place:Int deriving DecidableEq
def rB(L:List GToken)(s:RS):Ob:=.box [.sl .ro (L.map GToken.row),.int .i64 (s.at_:Int),.int .i64 s.opn,.int .i64 s.err,.int .i64 s.place]
theorem zN4(L:List GToken)(s:RS)(n:Nat):ltOb n (rB L s)=true:=by simp[rB,ltOb,ltC,ltK]
def zn5:GToken:=⟨0,0,[],0⟩
def tokF(L:List GToken)(s:RS):GToken:=L.getD s.at_ zn5
def za8(e place:Int)(s:RS):RS:=if s.err=0then{s with err:=e,place:=place}else s
def zP (s:RS):RS:={s with at_:=s.at_+1}
def outF(s:RS):RS:={s with opn:=s.opn-1}
def isT(L:List GToken)(w:List UInt8)(s:RS):Bool:=s.err==0&&(((tokF L s).kind==1||(tokF L s).kind==4)&&(tokF L s).s==w)
def eatF(L:List GToken)(w:List UInt8)(s:RS):RS:=if isT L w s=true then zP s else s
def zZ(L:List GToken)(w:List UInt8)(s:RS):RS:=if isT L w s=true then zP s else za8 13 (tokF L s).place s
def ys6(L:List GToken)(s:RS):Bool:=s.err==0&&((tokF L s).kind==1&&ze1 (tokF L s).s)
def yX(L:List GToken)(s:RS):List UInt8×RS:=if ys6 L s=true then((tokF L s).s,zP s)else([],za8 13 (tokF L s).place s)
def numB(L:List GToken)(s:RS):Bool:=s.err==0&&(tokF L s).kind==2
def numF(L:List GToken)(s:RS):Int×RS:=if numB L s=true then((tokF L s).n,zP s)else(0,za8 13 (tokF L s).place s)
def anyF(L:List GToken)(s:RS):List (List UInt8)->List UInt8 |[]=>[]|w::ws=>if isT L w s=true then w else anyF L s ws
def yO(L:List GToken)(s:RS):RS:=if s.err=0/\s.opn+1>200then{s with opn:=s.opn+1,err:=3,place:=(tokF L s).place}else{s with opn:=s.opn+1}
structure RIn(L:List GToken)(s:RS):Prop where
 at_:s.at_<L.length
 opn:0<=s.opn/\s.opn<=100000
structure LIn(L:List GToken):Prop where len:L.length<=1000000last:∀i,L.length=i+1->(L.getD i zn5).kind=0txt:∀t∈L,t.s.length<=maxLen
theorem LIn.next{L:List GToken}(h:LIn L){s:RS}(hs:RIn L s)(hk:(tokF L s).kind≠0):RIn L (zP s):=by
 refine⟨?_,hs.opn⟩;have h1:=hs.at_;rcases Cl (s.at_+1) L.length with h2|h2;.exact h2
 .exact absurd (h.last s.at_ om) hk
theorem xw1{L:List GToken}{w:List UInt8}{s:RS}(h:isT L w s=true):(tokF L s).kind≠0/\s.err=0:=by unfold isT at h;simp only[A6,Bv,beq_iff_eq]at h;exact⟨om,h.1⟩
theorem zs2(L:List GToken)(hL:LIn L)(s:RS)(hs:RIn L s):VCalls prog 76 [.ptr 0 0] [rB L s] (λr σ=>r=.agg (tokF L s).row/\σ=[rB L s]):=by
 have h1:=hs.at_;have hl:=hL.len;obtain⟨t,ht⟩:=eX (L[s.at_]);have aa:tokF L s=t:=by unfold tokF;rw[A7,A0 h1,ht];rfl
 rw[aa];refine iW 1 func76 ntmps76 results76 λc hc hb=>zO ?_;simp[go_sem,rB];refine yR [(10,4)] 2 sm kR kR ?_;simp[go_sem,h1,ht];exact xP 1 rfl rfl rfl (A3 _) (zD rfl) ⟨rfl,rfl⟩
theorem yk8{args:List V}{L:List GToken}{s s':RS}{v:V}(hc:VCalls P f args' [rB L s] (λr σ=>r=v/\σ=[rB L s']))(hb:wG P f=true)(aa:All2 (argS (ren [0] (τ.length+1))) args' (args++caps))(hn:noS v=true)(hk:KV v (rB L s'::τ)):wVC P c (.fn f caps) args (rB L s::τ) KV fx:=by
 refine zk6 0 hc hb rfl (zN4 _ _ _) aa (λr σ h=>⟨_,h.2,zN4 _ _ _⟩) ?_;rintro r o2⟨rfl,h2⟩;obtain rfl:o2=rB L s':=by simpa using h2
 rw[zz1 hn];exact hk
theorem zx2{n:Nat}{args:List V}{L:List GToken}{s s':RS}{v:V}(hc:VCalls P f args' [rB L s] (λr σ=>r=v/\σ=[rB L s']))(hb:wG P f=true)(aa:All2 (argS (ren [0] (τ.length+1))) args' (args++caps))(hn:noS v=true)(hk:KV v (rB L s'::τ)):wVD P c ⟨1,n,[],none⟩ 3 (.fn f caps) args (rB L s::τ) KV fx:=xP8 hc hb rfl (zN4 _ _ _) (zN4 _ _ _) aa hn hk
theorem wN{N:Nat}{l l':List V}(h:All2 (argS (ren [0] N)) l l'):All2 (argS (ren [0] N)) (.ptr 0 0::l) (.ptr 0 0::l'):=⟨.inl rfl,h⟩
theorem rd_1{N:Nat}:All2 (argS (ren [0] N)) [.ptr 0 0] [.ptr 0 0]:=wN trivial
theorem pR{args:List V}{L:List GToken}{s s':RS}{v:V}(hc:VCalls P f args' [rB L s] (λr σ=>r=v/\σ=[rB L s']))(hk:KV v (rB L s'::τ))(aa:All2 (argS (ren [0] (τ.length+1))) args' (args++caps):=by first|exact rd_1|exact wN (yA rfl)|exact wN ⟨zQ,yA rfl⟩|exact wN ⟨zD rfl,zQ,yA rfl⟩|exact wN ⟨zQ,zQ,yA rfl⟩)(hb:wG P f=true:=by kernel_rfl)(hn:noS v=true:=by rfl):wVC P c (.fn f caps) args (rB L s::τ) KV fx:=yk8 hc hb aa hn hk
theorem xG{R:V->St->Prop}{L:List GToken}{s:RS}{v r:V}(hr:argS (ren (List.range 1) (rB L s::τ).length) r v)(hR:R r [rB L s]):wret (some v) 1 R (rB L s::τ):=xP 1 rfl rfl (by simp[zN4]) (A3 _) hr hR
theorem is_w(L:List GToken)(hL:LIn L)(s:RS)(hs:RIn L s)(w:List UInt8):VCalls prog 75 [.ptr 0 0,.str w] [rB L s] (λr σ=>r=.bool (isT L w s)/\σ=[rB L s]):=by
 have ht:=zs2 L hL s hs;have aa:(tokF L s).s.length<=maxLen:=by unfold tokF;rw[A7,A0 hs.at_];exact hL.txt _ (A8 _)
 generalize hM:isT L w s=M;unfold isT at hM;obtain⟨t,ab⟩:=eX (tokF L s);rw[ab]at hM ht aa;have ret:∀(r:Bool)(τ:St),r=M->wret (some (.bool r)) 1 (λr σ=>r=.bool M/\σ=[rB L s]) (rB L s::τ):=λr τ h=>by subst h;exact xG (zD rfl) ⟨rfl,rfl⟩
 refine iW 1 func75 ntmps75 results75 λc hc hb=>zO ?_;simp[go_sem];refine pR ht ?_;simp[go_sem,rB];repeat'(first|(refine zY (λq=>?_) (λq=>?_)<;>simp[go_sem,q])|(refine zN (λq=>?_) (λq=>?_)<;>simp[go_sem,q]))
 all_goals exact ret _ _ (by rw[<-hM];simp_all)
theorem ye4(L:List GToken)(hL:LIn L)(s:RS)(hs:RIn L s)(w:List UInt8):VCalls prog 74 [.ptr 0 0,.str w] [rB L s] (λr σ=>r=.bool (isT L w s)/\σ=[rB L (eatF L w s)]):=by
 have hi:=is_w L hL s hs w;have h1:=hs.at_;have hl:=hL.len;have ei:IntKind.i64.wrap ((s.at_:Int)+1)=((s.at_+1:Nat):Int):=by rw[i64_id om om];omega
 unfold eatF;generalize isT L w s=b at hi;refine iW 1 func74 ntmps74 results74 λc hc hb=>zO ?_;simp[go_sem];refine pR hi ?_;simp[go_sem,rB];refine(A4 b).elim (λq=>?_) (λq=>?_);all_goals subst q
 all_goals simp[go_sem,ei]
 .exact xG (s:=zP s) (zD rfl) ⟨rfl,rfl⟩
 .exact xG (s:=s) (zD rfl) ⟨rfl,rfl⟩
theorem zH8(L:List GToken)(s:RS)(e p:Int):VCalls prog 79 [.ptr 0 0,.int .i64 e,.int .i64 p] [rB L s] (λr σ=>r=.tup []/\σ=[rB L (za8 e p s)]):=by
 unfold za8;refine iW 1 func79 ntmps79 results79 λc hc hb=>zO ?_;simp[go_sem,rB];refine zN (λq=>?_) (λq=>?_)
 .have q:s.err=0:=by simpa using q
  simp[go_sem,q];exact xG (s:={s with err:=e,place:=p}) (zD rfl) ⟨rfl,rfl⟩
 .have q:¬s.err=0:=by simpa using q
  simp[go_sem,q];exact xG (s:=s) (zD rfl) ⟨rfl,rfl⟩
theorem ze7(L:List GToken)(hL:LIn L)(s:RS)(hs:RIn L s)(w:List UInt8):VCalls prog 77 [.ptr 0 0,.str w] [rB L s] (λr σ=>r=.tup []/\σ=[rB L (zZ L w s)]):=by
 have he:=ye4 L hL s hs w;have ht:=zs2 L hL s hs;have hf:=zH8 L s 13 (tokF L s).place;unfold eatF at he;unfold zZ;generalize isT L w s=b at he;refine iW 1 func77 ntmps77 results77 λc hc hb=>zO ?_;simp[go_sem];refine pR he ?_;simp[go_sem];refine(A4 b).elim (λq=>?_) (λq=>?_);all_goals subst q
 all_goals simp[go_sem]
 .exact xG (zD rfl) ⟨rfl,rfl⟩
 .refine pR ht ?_;simp[go_sem];refine pR hf ?_;simp[go_sem];exact xG (zD rfl) ⟨rfl,rfl⟩
theorem zO7(L:List GToken)(hL:LIn L)(s:RS)(hs:RIn L s):VCalls prog 138 [.ptr 0 0] [rB L s] (λr σ=>r=.str (yX L s).1/\σ=[rB L (yX L s).2]):=by
 have ht:=zs2 L hL s hs;have hf:=zH8 L s 13 (tokF L s).place;have ad:(tokF L s).s.length<=maxLen:=by unfold tokF;rw[A7,A0 hs.at_];exact hL.txt _ (A8 _)
 have hw:=zq0 (tokF L s).s ad;have h1:=hs.at_;have hl:=hL.len;have ei:IntKind.i64.wrap ((s.at_:Int)+1)=((s.at_+1:Nat):Int):=by rw[i64_id om om];omega
 have ab:ys6 L s=false->yX L s=([],za8 13 (tokF L s).place s):=λh=>by unfold yX;rw[h];rfl
 have aa:ys6 L s=true->yX L s=((tokF L s).s,zP s):=λh=>by unfold yX;rw[h];rfl
 generalize yX L s=M at ab aa⊢;unfold ys6 at ab aa;obtain⟨t,ae⟩:=eX (tokF L s);rw[ae]at ht hf hw ab aa;obtain⟨b,af⟩:=eX (ze1 t.s);rw[af]at hw ab aa;have key:((s.err==0&&(t.kind==1&&b))=false/\(s.err !=0)=true)∨((s.err==0&&(t.kind==1&&b))=false/\(s.err !=0)=false/\(t.kind !=1)=true)∨((s.err==0&&(t.kind==1&&b))=b/\(s.err !=0)=false/\(t.kind !=1)=false):=by simp only[bne,Cz,Bool.not_eq_false'];cases s.err==0<;>cases t.kind==1<;>simp
 have no:∀τ:St,M=([],za8 13 t.place s)->wret (some (.str [])) 1 (λr σ=>r=.str M.1/\σ=[rB L M.2]) (rB L (za8 13 t.place s)::τ):=λτ h=>by subst h;exact xG (zD rfl) ⟨rfl,rfl⟩
 refine iW 1 func138 ntmps138 results138 λc hc hb=>zO ?_;simp[go_sem];refine pR ht ?_;simp[go_sem,rB];refine key.elim (λ⟨q1,q2⟩=>?_) λkey=>key.elim (λ⟨q1,q2,q3⟩=>?_) λ⟨q1,q2,q3⟩=>?_;.simp[go_sem,q2];refine pR hf ?_;simp[go_sem];exact no _ (ab q1)
 .simp[go_sem,q2,q3];refine pR hf ?_;simp[go_sem];exact no _ (ab q1)
 .simp[go_sem,q2,q3];refine pC hw ?_;refine(A4 b).elim (λq=>?_) (λq=>?_);.have hM:=aa (q1.trans q);subst q;subst hM;simp[go_sem,ei];exact xG (s:=zP s) (zD rfl) ⟨rfl,rfl⟩
  .have hM:=ab (q1.trans q);subst q;simp[go_sem];refine pR hf ?_;simp[go_sem];exact no _ hM
theorem ys8(L:List GToken)(hL:LIn L)(s:RS)(hs:RIn L s):VCalls prog 78 [.ptr 0 0] [rB L s] (λr σ=>r=.int .i64 (numF L s).1/\σ=[rB L (numF L s).2]):=by
 have ht:=zs2 L hL s hs;have hf:=zH8 L s 13 (tokF L s).place;have h1:=hs.at_;have hl:=hL.len;have ei:IntKind.i64.wrap ((s.at_:Int)+1)=((s.at_+1:Nat):Int):=by rw[i64_id om om];omega
 have ab:numB L s=false->numF L s=(0,za8 13 (tokF L s).place s):=λh=>by unfold numF;rw[h];rfl
 have aa:numB L s=true->numF L s=((tokF L s).n,zP s):=λh=>by unfold numF;rw[h];rfl
 generalize numF L s=M at ab aa⊢;unfold numB at ab aa;obtain⟨t,ad⟩:=eX (tokF L s);rw[ad]at ht hf ab aa;have key:((s.err==0&&t.kind==2)=false/\(s.err !=0)=true)∨((s.err==0&&t.kind==2)=false/\(s.err !=0)=false/\(t.kind !=2)=true)∨((s.err==0&&t.kind==2)=true/\(s.err !=0)=false/\(t.kind !=2)=false):=by simp only[bne,Cz,Bool.not_eq_false'];cases s.err==0<;>cases t.kind==2<;>simp
 have no:∀τ:St,M=(0,za8 13 t.place s)->wret (some (.int .i64 0)) 1 (λr σ=>r=.int .i64 M.1/\σ=[rB L M.2]) (rB L (za8 13 t.place s)::τ):=λτ h=>by subst h;exact xG (zD rfl) ⟨rfl,rfl⟩
 refine iW 1 func78 ntmps78 results78 λc hc hb=>zO ?_;simp[go_sem];refine pR ht ?_;simp[go_sem,rB];refine key.elim (λ⟨q1,q2⟩=>?_) λkey=>key.elim (λ⟨q1,q2,q3⟩=>?_) λ⟨q1,q2,q3⟩=>?_;.simp[go_sem,q2];refine pR hf ?_;simp[go_sem];exact no _ (ab q1)
 .simp[go_sem,q2,q3];refine pR hf ?_;simp[go_sem];exact no _ (ab q1)
 .have hM:=aa q1;subst hM;simp[go_sem,q2,q3,ei];exact xG (s:=zP s) (zD rfl) ⟨rfl,rfl⟩
theorem zX3(L:List GToken)(hL:LIn L)(s:RS)(hs:RIn L s)(ws:List (List UInt8))(hw:ws.length<=1000):VCalls prog 71 [.ptr 0 0,.sl .ro (ws.map λw=>[V.str w])] [rB L s] (λr σ=>r=.str (anyF L s ws)/\σ=[rB L s]):=by
 generalize hM:anyF L s ws=M;have ret:∀(r:List UInt8)(τ:St),r=M->wret (some (.str r)) 1 (λr σ=>r=.str M/\σ=[rB L s]) (rB L s::τ):=λr τ h=>by subst h;exact xG (zD rfl) ⟨rfl,rfl⟩
 refine iV 1 func71 ntmps71 results71 λc hc hb=>?_;refine zA ?_;simp[go_sem];refine zH (S:=Nat) [0,1,5] (λi=>[.ptr 0 0,.sl .ro (ws.map λw=>[V.str w]),.int .i64 i]) (λ_=>[rB L s]) (λi=>ws.length-i) (λi=>i<=ws.length/\anyF L s (ws.drop i)=M) hc hb 0 ⟨A2 _,hM⟩ ?_ ?_;.exact at_n 1 (by simp[go_sem,rB]) rfl (by simp[zN4]) (A3 _) (zC sg rfl)
 rintro i⟨hi,hinv⟩;by_cases q:i<ws.length;rotate_left;.rw[A9 om]at hinv;refine zA ?_;simp[go_sem,q];exact ret _ _ hinv
 have ei:=zS q om;obtain⟨w,hx⟩:=eX (ws[i]);rw[A5 q,hx,anyF]at hinv;have aa:=is_w L hL s hs w;obtain⟨b,ab⟩:=eX (isT L w s);rw[ab]at aa hinv;refine zA ?_;simp[go_sem,q,hx];refine pR aa ?_;simp[go_sem];refine zN (λw1=>?_) (λw1=>?_);.rw[if_pos w1]at hinv;simp[go_sem,q,hx];exact ret _ _ hinv
 .rw[if_neg (by rw[w1];decide)]at hinv;simp[go_sem,ei];exact zG (i+1) ⟨om,⟨q,hinv⟩,at_n 1 rfl rfl (by simp[zN4]) (A3 _) (zC sg rfl)⟩
theorem zP5(L:List GToken)(hL:LIn L)(s:RS)(hs:RIn L s)(ad:s.opn<=1000):VCalls prog 334 [.ptr 0 0] [rB L s] (λr σ=>r=.bool ((yO L s).err==0)/\σ=[rB L (yO L s)]):=by
 have ho:=hs.opn;have ht:=zs2 L hL {s with opn:=s.opn+1} ⟨hs.at_,by simp only;omega⟩;have e0:tokF L {s with opn:=s.opn+1}=tokF L s:=rfl;rw[e0]at ht;have hf:=zH8 L {s with opn:=s.opn+1} 3 (tokF L s).place;have ei:IntKind.i64.wrap (s.opn+1)=s.opn+1:=by rw[i64_id om om]
 refine iW 1 func334 ntmps334 results334 λc hc hb=>zO ?_;simp[go_sem,rB,ei];by_cases q1:s.err=0
 .have aa:(s.err==0)=true:=by simpa using q1
  by_cases q2:s.opn+1>200
  .have ab:decide (200<s.opn+1)=true:=decide_eq_true om;have hS:yO L s=za8 3 (tokF L s).place {s with opn:=s.opn+1}:=by unfold yO za8;rw[if_pos ⟨q1,q2⟩,if_pos q1]
   rw[hS];simp[go_sem,aa,ab];refine pR ht ?_;simp[go_sem];refine pR hf ?_;unfold za8;rw[if_pos q1];simp[go_sem,rB];exact xG (L:=L) (s:={s with opn:=s.opn+1,err:=3,place:=(tokF L s).place}) (zD rfl) ⟨rfl,rfl⟩
  .have ab:decide (200<s.opn+1)=false:=decide_eq_false om;have hS:yO L s={s with opn:=s.opn+1}:=by unfold yO;rw[if_neg (λh=>q2 h.2)]
   rw[hS];simp[go_sem,aa,ab];exact xG (L:=L) (s:={s with opn:=s.opn+1}) (zD rfl) ⟨rfl,rfl⟩
 .have aa:(s.err==0)=false:=by simpa using q1
  have hS:yO L s={s with opn:=s.opn+1}:=by unfold yO;rw[if_neg (λh=>q1 h.1)]
  rw[hS];simp[go_sem,aa];exact xG (L:=L) (s:={s with opn:=s.opn+1}) (zD rfl) ⟨rfl,rfl⟩
theorem yJ3:Pure prog 336 [] (.sl .ro [[.sl .ro [[.str [79,82]]]],[.sl .ro [[.str [65,78,68]]]]]):=by refine iW 0 func336 ntmps336 results336 λc hc hb=>zO ?_;simp[go_sem];exact wA zQ ⟨rfl,rfl⟩
mutual
def xK:GExpr->Nat|.mk _ _ _ args=>xM args+1def xM:List GExpr->Nat |[]=>0|e::l=>max (xK e) (xM l)end
variable{e:GExpr}{w:List UInt8}{o:Int}{τ:St}{a:List GExpr}
theorem zg6(e:GExpr):xK e=xM e.args+1:=by cases e;rw[xK];rfl
theorem zg1:∀(l:List GExpr)(e:GExpr),e∈l->xK e<=xM l
 |[],_,h=>by simp at h|x::l,e,h=>by
  rw[xM];rcases Ag.1 h with rfl|h;.omega
  .have:=zg1 l e h;omega
inductive Wide:GExpr->Prop|mk(e:GExpr)(h:e.args.length<=1000000)(ha:∀x∈e.args,Wide x):Wide e
theorem Wide.len(h:Wide e):e.args.length<=1000000:=by cases h;assumption
theorem Wide.sub(h:Wide e):∀x∈e.args,Wide x:=by cases h;assumption
def maxD(l:List GExpr)(d:Nat):Nat:=l.foldl (λd e=>max d (xK e)) d
theorem xc4:∀(l:List GExpr)(d:Nat),maxD l d=max d (xM l)
 |[],d=>by simp[maxD,xM]|e::l,d=>by have:=xc4 l (max d (xK e));unfold maxD at this⊢;rw[Bf,this,xM];omega
theorem xo8:∀(n:Nat)(e:GExpr),xK e<=n->n<=1000000->Wide e->Pure prog 356 [.agg e.row] (.int .i64 (xK e:Int))
 |0,e,h,_,_=>by rw[zg6]at h;omega|n+1,e,h,hn,hw=>by
  have ih:=xo8 n;have ae:=zg6 e;obtain⟨args,aa⟩:=eX e.args;have hlen:=hw.len;have ad:=hw.sub;rw[aa]at ae hlen ad;obtain⟨D,hD⟩:=eX (xK e);rw[hD]at ae h⊢;refine iV 0 func356 ntmps356 results356 λc hc hb=>?_;refine zA ?_;simp[go_sem];refine zH (S:=Nat×Nat) [1,3,4] (λu=>[.ptr 0 0,.int .i64 (u.2:Int),.int .i64 (u.1:Int)]) (λ_=>[.box e.row]) (λu=>args.length-u.1) (λu=>u.1<=args.length/\maxD (args.drop u.1) u.2=xM args/\u.2<=n) hc hb (0,0) ⟨A2 _,by simp[xc4],A2 _⟩ ?_ ?_;.exact aN 1 (by simp[ltOb,ltC,ltK,GExpr.row_eq])
  rintro⟨i,d⟩⟨hi,hinv,ai⟩;simp only at hi hinv ai;by_cases q:i<args.length;rotate_left
  .rw[A9 om]at hinv;have ak:d=xM args:=hinv;have ei:IntKind.i64.wrap ((d:Int)+1)=(D:Int):=by rw[i64_id om om];omega
   refine zA ?_;simp[go_sem,q,aa,ei];exact wR
  have ei:=zS q om;obtain⟨x,hx⟩:=eX (args[i]);have af:x∈args:=hx▸A8 q;have aj:=zg1 args x af;rw[A5 q,hx]at hinv;have ag:=ih x om om (ad x af);have ab:maxD (args.drop (i+1)) (max d (xK x))=xM args:=hinv;obtain⟨dx,ah⟩:=eX (xK x);rw[ah]at ag ab aj;refine zA ?_;simp[go_sem,q,aa,hx];refine zJ ag cB (zL sg (by rw[GExpr.row_eq];rfl)) rfl ?_;simp[go_sem,ei];refine zG (i+1,max d dx) ⟨by simp only;omega,⟨by simp only;omega,ab,by simp only;omega⟩,?_⟩;refine at_n 1 (by simp[go_sem,aa]) rfl (by simp[ltOb,ltC,ltK,GExpr.row_eq]) (A2 _) (zC ?_ rfl);simp[go_sem];split<;>omega
abbrev PR:=GExpr×RS
def zeroE:GExpr:=.mk 0 [] ⟨0,0,[]⟩ []
def opE(w:List UInt8)(args:List GExpr):GExpr:=.mk 3 w ⟨0,0,[]⟩ args
def valE(v:GValue):GExpr:=.mk 1 [] v []
def namE(w:List UInt8):GExpr:=.mk 2 w ⟨0,0,[]⟩ []
def opS(place:Int)(w:List UInt8)(args:List GExpr)(s:RS):RS:=if s.err=0/\16<xK (opE w args)then za8 3 place s else s
def opF(place:Int)(w:List UInt8)(args:List GExpr)(s:RS):PR:=(opE w args,opS place w args s)
def zf8(L:List GToken)(k:RS->PR)(s:RS):PR:=if(yO L s).err=0then((k (yO L s)).1,outF (k (yO L s)).2)else(zeroE,outF (yO L s))
def opsF(L:List GToken)(ws:List (List UInt8))(sub:RS->PR):Nat->PR->PR|0,x=>x|n+1,x=>if anyF L x.2 ws=[]then x else opsF L ws sub n (opF (tokF L x.2).place (anyF L x.2 ws) [x.1,(sub (zP x.2)).1] (sub (zP x.2)).2)
def wOR:List UInt8:= [79,82]
def wAND:List UInt8:= [65,78,68]
def wNOT:List UInt8:= [78,79,84]
def wIS:List UInt8:= [73,83]
def zs5:List UInt8:= [78,85,76,76]
def yd4:List UInt8:=[73,83,78,85,76,76]
def zT4:List UInt8:=[78,79,84,78,85,76,76]
def signsC:List (List UInt8):=[[61],[60,62],[60],[60,61],[62],[62,61]]
def zm8:List (List UInt8):= [[43],[45]]
def zm7:List (List UInt8):=[[42],[47],[37]]
def notK(L:List GToken)(rn rc:RS->PR)(s:RS):PR:=if isT L wNOT s=true then opF (tokF L s).place wNOT [(rn (zP s)).1] (rn (zP s)).2else rc s
def cmpJ(L:List GToken)(sub:RS->PR)(x:PR):PR:=if isT L wIS x.2=true then if isT L wNOT (zP x.2)=true then opF (tokF L x.2).place zT4 [x.1] (zZ L zs5 (zP (zP x.2)))else opF (tokF L x.2).place yd4 [x.1] (zZ L zs5 (zP x.2))else if anyF L x.2 signsC=[]then x else opF (tokF L x.2).place (anyF L x.2 signsC) [x.1,(sub (zP x.2)).1] (sub (zP x.2)).2
def zH1(L:List GToken)(un ex:RS->PR)(s:RS):PR:=if isT L [45] s=true then opF (tokF L s).place [78,69,71] [(un (zP s)).1] (un (zP s)).2else if isT L [40] s=true then((ex (zP s)).1,zZ L [41] (ex (zP s)).2)else if isT L [84,82,85,69] s=true then(valE ⟨1,1,[]⟩,zP s)else if isT L [70,65,76,83,69] s=true then(valE ⟨1,0,[]⟩,zP s)else if isT L zs5 s=true then(valE ⟨0,0,[]⟩,zP s)else if(tokF L s).kind=2then(valE ⟨2,(tokF L s).n,[]⟩,zP s)else if(tokF L s).kind=3then(valE ⟨3,0,(tokF L s).s⟩,zP s)else(namE (yX L s).1,(yX L s).2)
def zh7(L:List GToken)(rec:Nat->RS->PR):Nat->RS->PR |0,s=>opsF L [wOR] (rec 1) L.length (rec 1 s)|1,s=>opsF L [wAND] (rec 2) L.length (rec 2 s)|2,s=>notK L (rec 2) (rec 3) s|3,s=>cmpJ L (rec 4) (rec 4 s)|4,s=>opsF L zm8 (rec 5) L.length (rec 5 s)|5,s=>opsF L zm7 (rec 6) L.length (rec 6 s)|_,s=>zH1 L (rec 6) (rec 0) s
def pF(L:List GToken):Nat->Nat->RS->PR |0,_,s=>(zeroE,s)|f+1,w,s=>zf8 L (zh7 L (pF L f) w) s
structure PI(L:List GToken)(s:RS)(x:PR):Prop where
 rin:RIn L x.2opn:x.2.opn=s.opn
 up:s.at_<=x.2.at_
 err:x.2.err=0->s.err=0/\xK x.1<=16wide:Wide x.1
theorem zn2{e p:Int}{s:RS}(he:e≠0):(za8 e p s).err≠0:=by unfold za8;split<;>simp_all
theorem zH7(e p:Int)(s:RS):(za8 e p s).at_=s.at_:=by unfold za8;split<;>rfl
theorem zB0(e p:Int)(s:RS):(za8 e p s).opn=s.opn:=by unfold za8;split<;>rfl
theorem yf1{L:List GToken}{s:RS}(h:RIn L s)(e p:Int):RIn L (za8 e p s):=⟨by rw[zH7];exact h.at_,by rw[zB0];exact h.opn⟩
theorem zO8(p:Int)(w:List UInt8)(a:List GExpr)(s:RS):(opS p w a s).at_=s.at_:=by unfold opS;split;exact zH7 _ _ _;rfl
theorem yc2(p:Int)(w:List UInt8)(a:List GExpr)(s:RS):(opS p w a s).opn=s.opn:=by unfold opS;split;exact zB0 _ _ _;rfl
theorem yA0{p:Int}{s:RS}(h:(opS p w a s).err=0):s.err=0/\xK (opE w a)<=16:=by
 unfold opS at h;split at h;.exact absurd h (zn2 dc)
 .rename_i hc;refine⟨h,?_⟩;by_cases q:16<xK (opE w a);.exact absurd ⟨h,q⟩ hc
  .omega
theorem xX1{L:List GToken}{s:RS}(h:RIn L s)(p:Int)(w:List UInt8)(a:List GExpr):RIn L (opS p w a s):=⟨by rw[zO8];exact h.at_,by rw[yc2];exact h.opn⟩
theorem xd4(p:Int)(w:List UInt8)(a:List GExpr)(s:RS):opS p w a (outF s)=outF (opS p w a s):=by
 unfold opS za8 outF;by_cases q:s.err=0/\16<xK (opE w a);.rw[if_pos q,if_pos q,if_pos q.1,if_pos q.1]
 .rw[if_neg q,if_neg q]
theorem xr6(w:List UInt8)(a:List GExpr):xK (opE w a)=xM a+1:=zg6 _
theorem xg2(h:a.length<=1000000)(ha:∀x∈a,Wide x):Wide (opE w a):=.mk _ h ha
theorem xF5(h:e.args=[]):Wide e:=.mk _ (by simp[h]) (by simp[h])
def RR(L:List GToken)(x:PR):V->St->Prop:=λr σ=>r=.agg x.1.row/\σ=[rB L x.2]
theorem wM{L:List GToken}{s:RS}{x:PR}(h:x=(e,s)):wret (some (.agg [.int .i64 e.kind,.str e.s,.int .i64 e.v.kind,.int .i64 e.v.n,.str e.v.s,.sl .ro (e.args.map GExpr.row)])) 1 (RR L x) (rB L s::τ):=by subst h;exact xG (zD rfl) ⟨by rw[GExpr.row_eq],rfl⟩
theorem xc9(e:GExpr):noS (.agg e.row)=true:=by rw[GExpr.row_eq];rfl
theorem za6{P:Program}{c:Ctx}{f:FuncId}{caps args args':List V}{L:List GToken}{s:RS}{x:PR}{KV:V->St->Prop}(hc:VCalls P f args' [rB L s] (RR L x))(hb:wG P f=true)(aa:All2 (argS (ren [0] (τ.length+1))) args' (args++caps))(hk:KV (.agg x.1.row) (rB L x.2::τ)):wVC P c (.fn f caps) args (rB L s::τ) KV fx:=yk8 hc hb aa (xc9 _) hk
theorem zt1{P:Program}{c:Ctx}{n:Nat}{f:FuncId}{caps args args':List V}{L:List GToken}{s:RS}{x:PR}{KV:V->St->Prop}(hc:VCalls P f args' [rB L s] (RR L x))(hb:wG P f=true)(aa:All2 (argS (ren [0] (τ.length+1))) args' (args++caps))(hk:KV (.agg x.1.row) (rB L x.2::τ)):wVD P c ⟨1,n,[],none⟩ 3 (.fn f caps) args (rB L s::τ) KV fx:=zx2 hc hb aa (xc9 _) hk
theorem op_w(L:List GToken)(s:RS)(p:Int)(w:List UInt8)(a:List GExpr)(hl:a.length<=1000)(hw:∀x∈a,Wide x)(hd:s.err=0->xM a<=1000):VCalls prog 337 [.ptr 0 0,.int .i64 p,.str w,.sl .ro (a.map GExpr.row)] [rB L s] (RR L (opF p w a s)):=by
 obtain⟨D,hD⟩:=eX (xK (opE w a));have ad:=xr6 w a;rw[hD]at ad;have hf:=zH8 L s 3 p;have hS:opF p w a s=(opE w a,if s.err=0/\16<D then za8 3 p s else s):=by unfold opF opS;rw[hD]
 generalize opF p w a s=M at hS⊢;refine iW 1 func337 ntmps337 results337 λc hc hb=>zO ?_;by_cases q1:s.err=0
 .have aa:(s.err==0)=true:=by simpa using q1
  have ae:=xo8 1001 (opE w a) (by rw[hD,ad];have:=hd q1;omega) om (xg2 om hw);rw[hD]at ae;simp[go_sem,rB,aa];refine zJ ae cB (zL (by rw[GExpr.row_eq];rfl) rfl) rfl ?_;simp[go_sem];by_cases q2:16<D;.have ab:decide ((16:Int)<(D:Int))=true:=decide_eq_true om;rw[if_pos ⟨q1,q2⟩]at hS;simp[go_sem,ab];refine pR hf ?_;simp[go_sem];exact wM hS
  .have ab:decide ((16:Int)<(D:Int))=false:=decide_eq_false om;rw[if_neg (λh=>q2 h.2)]at hS;simp[go_sem,ab];exact wM hS
 .have aa:(s.err==0)=false:=by simpa using q1
  rw[if_neg (λh=>q1 h.1)]at hS;simp[go_sem,rB,aa];exact wM hS
variable {L:List GToken}
theorem zb3(s:RS):(zP s).at_=s.at_+1:=rfl
theorem zD1{s:RS}:∀{ws:List (List UInt8)},anyF L s ws≠[]->isT L (anyF L s ws) s=true
 |[],h=>absurd rfl h|w::ws,h=>by
  unfold anyF at h⊢;split;.assumption
  .rename_i hn;rw[if_neg hn]at h;exact zD1 h
theorem RIn.next(hL:LIn L){s:RS}(h:RIn L s)(hi:isT L w s=true):RIn L (zP s):=hL.next h (xw1 hi).1
theorem zl2(hL:LIn L){s:RS}(h:RIn L s):RIn L (zZ L w s):=by
 unfold zZ;split;.exact h.next hL ‹_›
 .exact yf1 h _ _
theorem zw5(w:List UInt8)(s:RS):s.at_<=(zZ L w s).at_:=by
 unfold zZ;split;.simp[zP]
 .rw[zH7];exact A3 _
theorem zp8(w:List UInt8)(s:RS):(zZ L w s).opn=s.opn:=by
 unfold zZ;split;.rfl
 .exact zB0 _ _ _
theorem zj8{s:RS}(h:(zZ L w s).err=0):s.err=0/\isT L w s=true:=by
 unfold zZ at h;split at h;.exact⟨h,‹_›⟩
 .exact absurd h (zn2 dc)
theorem yK6(hL:LIn L){s:RS}(h:RIn L s):RIn L (yX L s).2:=by
 unfold yX;split;.rename_i hb;unfold ys6 at hb;simp only[A6,beq_iff_eq]at hb;exact hL.next h (by rw[hb.2.1];decide)
 .exact yf1 h _ _
theorem yK7(s:RS):s.at_<=(yX L s).2.at_:=by
 unfold yX;split;.simp[zP]
 .simp only[zH7];exact A3 _
theorem ys7(s:RS):(yX L s).2.opn=s.opn:=by
 unfold yX;split;.rfl
 .exact zB0 _ _ _
theorem zW0{s:RS}(h:(yX L s).2.err=0):s.err=0/\ys6 L s=true:=by
 unfold yX at h;split at h;.exact⟨h,‹_›⟩
 .exact absurd h (zn2 dc)
theorem xI4(h:e.args=[]):xK e=1:=by rw[zg6,h];rfl
theorem zM2{s0 s:RS}(p:Int)(w:List UInt8)(h1:RIn L s)(h2:s.opn=s0.opn)(h3:s0.at_<=s.at_)(h4:s.err=0->s0.err=0)(h5:a.length<=1000000)(h6:∀x∈a,Wide x):PI L s0 (opF p w a s):=⟨xX1 h1 _ _ _,by show(opS p w a s).opn=_;rw[yc2,h2],by show _<=(opS p w a s).at_;rw[zO8];exact h3,λh=>⟨h4 (yA0 h).1,(yA0 h).2⟩,xg2 h5 h6⟩
theorem zL6(hL:LIn L){o:Int}{sub:RS->PR}(aa:∀s,RIn L s->s.opn=o->PI L s (sub s))(ws:List (List UInt8)){s0:RS}:∀(n:Nat)(x:PR),PI L s0 x->s0.opn=o->PI L s0 (opsF L ws sub n x)
 |0,x,h,_=>h|n+1,x,h,ho=>by
  unfold opsF;split;.exact h
  rename_i ab;have hi:=zD1 ab;have hx:=h.opn;have hy:=aa (zP x.2) (h.rin.next hL hi) (by show x.2.opn=o;rw[hx,ho]);refine zL6 hL aa ws n _ (zM2 _ _ hy.rin ?_ ?_ (λhe=>(h.err ?_).1) sm ?_) ho;.rw[hy.opn];exact hx
  .have h1:=hy.up;have h2:=h.up;rw[zb3]at h1;omega
  .exact(hy.err he).1
  .intro e he;simp only[Ag,Be,or_false]at he;rcases he with rfl|rfl;.exact h.wide
   .exact hy.wide
theorem xL7(hL:LIn L){rn rc:RS->PR}(h1:∀s,RIn L s->s.opn=o->PI L s (rn s))(h2:∀s,RIn L s->s.opn=o->PI L s (rc s))(s:RS)(hs:RIn L s)(ho:s.opn=o):PI L s (notK L rn rc s):=by
 unfold notK;split
 .rename_i hi;have hy:=h1 (zP s) (hs.next hL hi) ho;refine zM2 _ _ hy.rin hy.opn ?_ (λhe=>(hy.err he).1) sm (λe he=>?_);.have h1:=hy.up;rw[zb3]at h1;omega
  .simp only[Ag,Be,or_false]at he;subst he;exact hy.wide
 .exact h2 s hs ho
theorem xI2(hL:LIn L){sub:RS->PR}(aa:∀s,RIn L s->s.opn=o->PI L s (sub s))(s:RS)(ho:s.opn=o)(x:PR)(h:PI L s x):PI L s (cmpJ L sub x):=by
 have hx:=h.opn;have hu:=h.up;have w1:∀e∈[x.1],Wide e:=λe he=>by simp only[Ag,Be,or_false]at he;subst he;exact h.wide
 unfold cmpJ;split
 .rename_i hi;have hn:=h.rin.next hL hi;split
  .rename_i ab;have ad:=hn.next hL ab;refine zM2 _ _ (zl2 hL ad) ?_ ?_ (λhe=>(h.err ?_).1) sm w1;.rw[zp8];exact hx
   .have:=zw5 (L:=L) zs5 (zP (zP x.2));simp only[zP]at this⊢;omega
   .exact(zj8 he).1
  .refine zM2 _ _ (zl2 hL hn) ?_ ?_ (λhe=>(h.err ?_).1) sm w1;.rw[zp8];exact hx
   .have:=zw5 (L:=L) zs5 (zP x.2);simp only[zP]at this⊢;omega
   .exact(zj8 he).1
 .split;.exact h
  rename_i ae;have hi:=zD1 ae;have hy:=aa (zP x.2) (h.rin.next hL hi) (by show x.2.opn=o;rw[hx,ho]);refine zM2 _ _ hy.rin ?_ ?_ (λhe=>(h.err ?_).1) sm ?_;.rw[hy.opn];exact hx
  .have h1:=hy.up;rw[zb3]at h1;omega
  .exact(hy.err he).1
  .intro e he;simp only[Ag,Be,or_false]at he;rcases he with rfl|rfl;.exact h.wide
   .exact hy.wide
theorem zD0{s:RS}(ha:e.args=[]){s2:RS}(h1:RIn L s2)(h2:s2.opn=s.opn)(h3:s.at_<=s2.at_)(h4:s2.err=0->s.err=0):PI L s (e,s2):=⟨h1,h2,h3,λh=>⟨h4 h,by simp only;rw[xI4 ha];decide⟩,xF5 ha⟩
theorem yE8(hL:LIn L){un ex:RS->PR}(h1:∀s,RIn L s->s.opn=o->PI L s (un s))(h2:∀s,RIn L s->s.opn=o->PI L s (ex s))(s:RS)(hs:RIn L s)(ho:s.opn=o):PI L s (zH1 L un ex s):=by
 unfold zH1;split
 .rename_i hi;have hy:=h1 (zP s) (hs.next hL hi) ho;refine zM2 _ _ hy.rin hy.opn ?_ (λhe=>(hy.err he).1) sm (λe he=>?_);.have h1:=hy.up;rw[zb3]at h1;omega
  .simp only[Ag,Be,or_false]at he;subst he;exact hy.wide
 split
 .rename_i hi;have hy:=h2 (zP s) (hs.next hL hi) ho;refine⟨zl2 hL hy.rin,?_,?_,λhe=>?_,hy.wide⟩;.rw[zp8];exact hy.opn
  .have h1:=hy.up;have h2:=zw5 (L:=L) [41] (ex (zP s)).2;rw[zb3]at h1;show _<=(zZ L [41] (ex (zP s)).2).at_;omega
  .have:=hy.err (zj8 he).1;exact this
 split;.exact zD0 rfl (hs.next hL ‹_›) rfl (by simp[zP]) id
 split;.exact zD0 rfl (hs.next hL ‹_›) rfl (by simp[zP]) id
 split;.exact zD0 rfl (hs.next hL ‹_›) rfl (by simp[zP]) id
 split;.exact zD0 rfl (hL.next hs om) rfl (by simp[zP]) id
 split;.exact zD0 rfl (hL.next hs om) rfl (by simp[zP]) id
 .exact zD0 rfl (yK6 hL hs) (ys7 s) (yK7 s) (λh=>(zW0 h).1)
theorem xq4(hL:LIn L){rec:Nat->RS->PR}(h:∀w s,RIn L s->s.opn=o->PI L s (rec w s)):∀(w:Nat)(s:RS),RIn L s->s.opn=o->PI L s (zh7 L rec w s) |0,s,hs,ho=>zL6 hL (h 1) _ _ _ (h 1 s hs ho) ho|1,s,hs,ho=>zL6 hL (h 2) _ _ _ (h 2 s hs ho) ho|2,s,hs,ho=>xL7 hL (h 2) (h 3) s hs ho|3,s,hs,ho=>xI2 hL (h 4) s ho _ (h 4 s hs ho)|4,s,hs,ho=>zL6 hL (h 5) _ _ _ (h 5 s hs ho) ho|5,s,hs,ho=>zL6 hL (h 6) _ _ _ (h 6 s hs ho) ho|_w+6,s,hs,ho=>yE8 hL (h 6) (h 0) s hs ho
theorem zS3(s:RS):(yO L s).at_=s.at_:=by unfold yO;split<;>rfl
theorem zb8(s:RS):(yO L s).opn=s.opn+1:=by unfold yO;split<;>rfl
theorem zh5{s:RS}(h:(yO L s).err=0):s.err=0/\s.opn+1<=200:=by
 unfold yO at h;split at h;.simp at h
 .rename_i hc;refine⟨h,?_⟩;by_cases q:s.opn+1>200;.exact absurd ⟨h,q⟩ hc
  .omega
theorem zl4{s:RS}(hs:RIn L s)(h:s.opn<=200):RIn L (yO L s):=⟨by rw[zS3];exact hs.at_,by rw[zb8];have:=hs.opn;omega⟩
theorem xd6{s:RS}(hs:RIn L s)(h:1<=s.opn):RIn L (outF s):=⟨hs.at_,by have:=hs.opn;simp only[outF];omega⟩
theorem xB7{k:RS->PR}(s:RS)(hs:RIn L s)(h2:s.opn<=200)(hk:(yO L s).err=0->PI L (yO L s) (k (yO L s))):PI L s (zf8 L k s):=by
 have hr:=zl4 hs h2;have ho:=hs.opn;unfold zf8;split;.rename_i he;have hy:=hk he;have h1:=hy.opn;have h3:=hy.up;rw[zb8]at h1;rw[zS3]at h3;refine⟨xd6 hy.rin om,?_,h3,λh=>⟨(zh5 he).1,(hy.err h).2⟩,hy.wide⟩;simp only[outF];omega
 .rename_i he;refine zD0 rfl (xd6 hr (by rw[zb8];omega)) ?_ ?_ (λh=>absurd h he);.simp only[outF,zb8];omega
  .simp only[outF,zS3];exact A3 _
theorem xd7(hL:LIn L):∀(f:Nat)(w:Nat)(s:RS),RIn L s->s.opn<=200->201<=(f:Int)+s.opn->PI L s (pF L f w s)
 |0,w,s,hs,h2,hf=>by omega|f+1,w,s,hs,h2,hf=>by unfold pF;refine xB7 s hs h2 (λhe=>?_);have h3:=(zh5 he).2;exact xq4 hL (o:=s.opn+1) (λw t ht ho=>xd7 hL f w t ht om (by push_cast at hf;omega)) w _ (zl4 hs h2) (zb8 s)
structure PW(L:List GToken)(rec:Nat->RS->PR)(o:Int):Prop where ok:∀w s,RIn L s->s.opn=o->PI L s (rec w s)chain:∀k:Nat,k<=1->∀s,RIn L s->s.opn=o->VCalls prog 267 [.ptr 0 0,.int .i64 (k:Int)] [rB L s] (RR L (rec k s))not:∀s,RIn L s->s.opn=o->VCalls prog 355 [.ptr 0 0] [rB L s] (RR L (rec 2 s))cmp:∀s,RIn L s->s.opn=o->VCalls prog 364 [.ptr 0 0] [rB L s] (RR L (rec 3 s))sum:∀s,RIn L s->s.opn=o->VCalls prog 369 [.ptr 0 0] [rB L s] (RR L (rec 4 s))prod:∀s,RIn L s->s.opn=o->VCalls prog 372 [.ptr 0 0] [rB L s] (RR L (rec 5 s))unary:∀s,RIn L s->s.opn=o->VCalls prog 373 [.ptr 0 0] [rB L s] (RR L (rec 6 s))
theorem zz5{g:Tag}{L:List GToken}{s:RS}{x:PR}(h:x=(e,s)):wret (some (.agg [.int .i64 e.kind,.str e.s,.int .i64 e.v.kind,.int .i64 e.v.n,.str e.v.s,.sl g (e.args.map GExpr.row)])) 1 (RR L x) (rB L s::τ):=by subst h;refine xG (r:=.agg [.int .i64 e.kind,.str e.s,.int .i64 e.v.kind,.int .i64 e.v.n,.str e.v.s,.sl .ro (e.args.map GExpr.row)]) (zv4 ⟨zU rfl,zU rfl,zU rfl,zU rfl,zU rfl,yY,tV⟩) ⟨by rw[GExpr.row_eq],rfl⟩
def zB:Ob:=.box [.int .i64 0,.str [],.int .i64 0,.int .i64 0,.str [],.sl .full []]
theorem zE7(h0:0<=o)(h1:o<=1000):IntKind.i64.wrap (o-1)=o-1:=i64_id om om
theorem wc3(L:List GToken)(hL:LIn L)(rec:Nat->RS->PR)(s:RS)(hs:RIn L s)(h2:s.opn<=200)(aj:s.opn+1<=200->PW L rec (s.opn+1)):VCalls prog 369 [.ptr 0 0] [rB L s] (RR L (zf8 L (zh7 L rec 4) s)):=by
 have hr:=zP5 L hL s hs om;have aa:=zl4 hs h2;have ab:=zb8 (L:=L) s;have ak:=zh5 (L:=L) (s:=s);have ho:=hs.opn;have hM:zf8 L (zh7 L rec 4) s=if(yO L s).err=0then((opsF L zm8 (rec 5) L.length (rec 5 (yO L s))).1,outF (opsF L zm8 (rec 5) L.length (rec 5 (yO L s))).2)else(zeroE,outF (yO L s)):=rfl;generalize zf8 L (zh7 L rec 4) s=M at hM⊢;generalize yO L s=s1 at hr aa ab ak hM;have eo:=zE7 (o:=s1.opn) om om;refine iV 1 func369 ntmps369 results369 λc hc hb=>?_;by_cases q1:s1.err=0;rotate_left
 .have af:(s1.err==0)=false:=by simpa using q1
  rw[if_neg q1]at hM;rw[af]at hr;refine zA ?_;simp[go_sem];refine pR hr ?_;simp[go_sem,rB,eo];exact zz5 (e:=zeroE) (s:=outF s1) hM
 have af:(s1.err==0)=true:=by simpa using q1
 rw[if_pos q1]at hM;rw[af]at hr;have hP:=aj (ak q1).2;have ag:=hP.ok 5 s1 aa ab;have al:=hP.prod s1 aa ab;generalize rec 5 s1=x0 at ag al hM;have ae:=zX3 L hL x0.2 ag.rin zm8 dc;obtain⟨N,hN⟩:=eX L.length;rw[hN]at hM;refine zA ?_;simp[go_sem];refine pR hr ?_;simp[go_sem];refine za6 al cB rd_1 ?_;simp[go_sem];refine pR ae ?_;simp[go_sem];refine zH (S:=PR) [0,2,3,4] (λx=>[.ptr 0 0,.ptr 1 0,.ptr 2 0,.str (anyF L x.2 zm8)]) (λx=>[rB L x.2,zB,.box x.1.row]) (λx=>N-x.2.at_) (λx=>PI L s1 x/\∃n,N<=n+x.2.at_/\((opsF L zm8 (rec 5) n x).1,outF (opsF L zm8 (rec 5) n x).2)=M) hc hb x0 ⟨ag,N,om,hM.symm⟩ ?_ ?_;.exact at_n 3 (by simp[go_sem,zB]) rfl (by simp[rB,zB,ltOb,ltC,ltK,GExpr.row_eq]) dc (zC sg rfl)
 rintro x⟨hx,n,hn,hinv⟩;have ax:=hx.rin.at_;have ae:=zX3 L hL x.2 hx.rin zm8 dc;have an:=zs2 L hL x.2 hx.rin;have ad:=hx.opn;by_cases q:anyF L x.2 zm8=[]
 .have au:M=(x.1,outF x.2):=by cases n with|zero=>exact hinv.symm|succ n=>rw[opsF,if_pos q]at hinv;exact hinv.symm
  have av:IntKind.i64.wrap (x.2.opn-1)=x.2.opn-1:=by rw[ad];exact eo
  refine zA ?_;simp[go_sem,q,rB,av];exact wM (s:=outF x.2) au
 obtain⟨n,rfl⟩:∃m,n=m+1:=⟨n-1,om⟩;rw[opsF,if_neg q]at hinv;have hi:=zD1 q;have ao:=hx.rin.next hL hi;have hy:=hP.ok 5 (zP x.2) ao (by show x.2.opn=_;rw[ad,ab]);have aq:=hP.prod (zP x.2) ao (by show x.2.opn=_;rw[ad,ab]);generalize rec 5 (zP x.2)=y at hy aq hinv;have aw:=hy.up;rw[zb3]at aw;have hz:PI L s1 (opF (tokF L x.2).place (anyF L x.2 zm8) [x.1,y.1] y.2):=zM2 _ _ hy.rin (by rw[hy.opn];exact ad) (by have:=hx.up;omega) (λhe=>(hx.err (hy.err he).1).1) sm (λe he=>by
  simp only[Ag,Be,or_false]at he;rcases he with rfl|rfl;.exact hx.wide
  .exact hy.wide);have ah:=op_w L y.2 (tokF L x.2).place (anyF L x.2 zm8) [x.1,y.1] sm (λe he=>by
  simp only[Ag,Be,or_false]at he;rcases he with rfl|rfl;.exact hx.wide
  .exact hy.wide) (λhe=>by have h1:=(hy.err he).2;have h2:=(hx.err (hy.err he).1).2;simp only[xM];omega);have ar:(opF (tokF L x.2).place (anyF L x.2 zm8) [x.1,y.1] y.2).2.at_=y.2.at_:=zO8 _ _ _ _;generalize opF (tokF L x.2).place (anyF L x.2 zm8) [x.1,y.1] y.2=z at hz ah hinv ar;have ai:=zX3 L hL z.2 hz.rin zm8 dc;have ay:=hz.rin.at_;have hl:=hL.len;have ei:IntKind.i64.wrap ((x.2.at_:Int)+1)=((x.2.at_+1:Nat):Int):=by rw[i64_id om om];omega
 have q':(anyF L x.2 zm8).isEmpty=false:=by simpa using q
 refine zA ?_;simp[go_sem,q'];refine pR an ?_;simp[go_sem,rB,ei];simp only[Al,Bs,GExpr.row_eq]at ah;refine zb0 [(3,1),(5,3),(7,3)] 1 3 sm kR kR ?_;simp[go_sem];refine zt1 aq cB rd_1 ?_;simp[go_sem,GExpr.row_eq];refine zt1 ah cB (wN ⟨zD rfl,zD rfl,zQ,tV⟩) ?_;simp[go_sem,GExpr.row_eq];refine pR ai ?_;simp[go_sem];refine zG z ⟨om,⟨hz,n,om,hinv⟩,?_⟩;exact at_n 3 (by simp[go_sem,rB,zB,GExpr.row_eq]) rfl (by simp[zB,ltOb,ltC,ltK,GExpr.row_eq]) dc (zC sg rfl)
theorem xX7(L:List GToken)(hL:LIn L)(rec:Nat->RS->PR)(s:RS)(hs:RIn L s)(h2:s.opn<=200)(aj:s.opn+1<=200->PW L rec (s.opn+1)):VCalls prog 372 [.ptr 0 0] [rB L s] (RR L (zf8 L (zh7 L rec 5) s)):=by
 have hr:=zP5 L hL s hs om;have aa:=zl4 hs h2;have ab:=zb8 (L:=L) s;have ak:=zh5 (L:=L) (s:=s);have ho:=hs.opn;have hM:zf8 L (zh7 L rec 5) s=if(yO L s).err=0then((opsF L zm7 (rec 6) L.length (rec 6 (yO L s))).1,outF (opsF L zm7 (rec 6) L.length (rec 6 (yO L s))).2)else(zeroE,outF (yO L s)):=rfl;generalize zf8 L (zh7 L rec 5) s=M at hM⊢;generalize yO L s=s1 at hr aa ab ak hM;have eo:=zE7 (o:=s1.opn) om om;refine iV 1 func372 ntmps372 results372 λc hc hb=>?_;by_cases q1:s1.err=0;rotate_left
 .have af:(s1.err==0)=false:=by simpa using q1
  rw[if_neg q1]at hM;rw[af]at hr;refine zA ?_;simp[go_sem];refine pR hr ?_;simp[go_sem,rB,eo];exact zz5 (e:=zeroE) (s:=outF s1) hM
 have af:(s1.err==0)=true:=by simpa using q1
 rw[if_pos q1]at hM;rw[af]at hr;have hP:=aj (ak q1).2;have ag:=hP.ok 6 s1 aa ab;have al:=hP.unary s1 aa ab;generalize rec 6 s1=x0 at ag al hM;have ae:=zX3 L hL x0.2 ag.rin zm7 dc;obtain⟨N,hN⟩:=eX L.length;rw[hN]at hM;refine zA ?_;simp[go_sem];refine pR hr ?_;simp[go_sem];refine za6 al cB rd_1 ?_;simp[go_sem];refine pR ae ?_;simp[go_sem];refine zH (S:=PR) [0,2,3,4] (λx=>[.ptr 0 0,.ptr 1 0,.ptr 2 0,.str (anyF L x.2 zm7)]) (λx=>[rB L x.2,zB,.box x.1.row]) (λx=>N-x.2.at_) (λx=>PI L s1 x/\∃n,N<=n+x.2.at_/\((opsF L zm7 (rec 6) n x).1,outF (opsF L zm7 (rec 6) n x).2)=M) hc hb x0 ⟨ag,N,om,hM.symm⟩ ?_ ?_;.exact at_n 3 (by simp[go_sem,zB]) rfl (by simp[rB,zB,ltOb,ltC,ltK,GExpr.row_eq]) dc (zC sg rfl)
 rintro x⟨hx,n,hn,hinv⟩;have ax:=hx.rin.at_;have ae:=zX3 L hL x.2 hx.rin zm7 dc;have an:=zs2 L hL x.2 hx.rin;have ad:=hx.opn;by_cases q:anyF L x.2 zm7=[]
 .have au:M=(x.1,outF x.2):=by cases n with|zero=>exact hinv.symm|succ n=>rw[opsF,if_pos q]at hinv;exact hinv.symm
  have av:IntKind.i64.wrap (x.2.opn-1)=x.2.opn-1:=by rw[ad];exact eo
  refine zA ?_;simp[go_sem,q,rB,av];exact wM (s:=outF x.2) au
 obtain⟨n,rfl⟩:∃m,n=m+1:=⟨n-1,om⟩;rw[opsF,if_neg q]at hinv;have hi:=zD1 q;have ao:=hx.rin.next hL hi;have hy:=hP.ok 6 (zP x.2) ao (by show x.2.opn=_;rw[ad,ab]);have aq:=hP.unary (zP x.2) ao (by show x.2.opn=_;rw[ad,ab]);generalize rec 6 (zP x.2)=y at hy aq hinv;have aw:=hy.up;rw[zb3]at aw;have hz:PI L s1 (opF (tokF L x.2).place (anyF L x.2 zm7) [x.1,y.1] y.2):=zM2 _ _ hy.rin (by rw[hy.opn];exact ad) (by have:=hx.up;omega) (λhe=>(hx.err (hy.err he).1).1) sm (λe he=>by
  simp only[Ag,Be,or_false]at he;rcases he with rfl|rfl;.exact hx.wide
  .exact hy.wide);have ah:=op_w L y.2 (tokF L x.2).place (anyF L x.2 zm7) [x.1,y.1] sm (λe he=>by
  simp only[Ag,Be,or_false]at he;rcases he with rfl|rfl;.exact hx.wide
  .exact hy.wide) (λhe=>by have h1:=(hy.err he).2;have h2:=(hx.err (hy.err he).1).2;simp only[xM];omega);have ar:(opF (tokF L x.2).place (anyF L x.2 zm7) [x.1,y.1] y.2).2.at_=y.2.at_:=zO8 _ _ _ _;generalize opF (tokF L x.2).place (anyF L x.2 zm7) [x.1,y.1] y.2=z at hz ah hinv ar;have ai:=zX3 L hL z.2 hz.rin zm7 dc;have ay:=hz.rin.at_;have hl:=hL.len;have ei:IntKind.i64.wrap ((x.2.at_:Int)+1)=((x.2.at_+1:Nat):Int):=by rw[i64_id om om];omega
 have q':(anyF L x.2 zm7).isEmpty=false:=by simpa using q
 refine zA ?_;simp[go_sem,q'];refine pR an ?_;simp[go_sem,rB,ei];simp only[Al,Bs,GExpr.row_eq]at ah;refine zb0 [(3,1),(5,3),(7,3)] 1 3 sm kR kR ?_;simp[go_sem];refine zt1 aq cB rd_1 ?_;simp[go_sem,GExpr.row_eq];refine zt1 ah cB (wN ⟨zD rfl,zD rfl,zQ,tV⟩) ?_;simp[go_sem,GExpr.row_eq];refine pR ai ?_;simp[go_sem];refine zG z ⟨om,⟨hz,n,om,hinv⟩,?_⟩;exact at_n 3 (by simp[go_sem,rB,zB,GExpr.row_eq]) rfl (by simp[zB,ltOb,ltC,ltK,GExpr.row_eq]) dc (zC sg rfl)
theorem yF0(L:List GToken)(rec:Nat->RS->PR)(o:Int)(hP:PW L rec o)(s:RS)(hs:RIn L s)(ho:s.opn=o):VCalls prog 335 [.ptr 0 0,.int .i64 0] [rB L s] (RR L (rec 1 s)):=by have aa:=hP.chain 1 (A3 _) s hs ho;generalize rec 1 s=x at aa⊢;refine iW 1 func335 ntmps335 results335 λc hc hb=>zO ?_;simp[go_sem];refine za6 aa cB (wN ⟨zD rfl,tV⟩) ?_;simp[go_sem,GExpr.row_eq];exact wM rfl
theorem yF1(L:List GToken)(rec:Nat->RS->PR)(o:Int)(hP:PW L rec o)(s:RS)(hs:RIn L s)(ho:s.opn=o):VCalls prog 335 [.ptr 0 0,.int .i64 1] [rB L s] (RR L (rec 2 s)):=by have aa:=hP.not s hs ho;generalize rec 2 s=x at aa⊢;refine iW 1 func335 ntmps335 results335 λc hc hb=>zO ?_;simp[go_sem];refine za6 aa cB rd_1 ?_;simp[go_sem,GExpr.row_eq];exact wM rfl
theorem yY6(L:List GToken)(s:RS)(w:List UInt8)(hw:w≠[]):(anyF L s [w]=[]↔isT L w s=false)/\(isT L w s=true->anyF L s [w]=w):=by
 unfold anyF;cases isT L w s;.simp[anyF]
 .simp[hw]
theorem xq9(L:List GToken)(hL:LIn L)(rec:Nat->RS->PR)(s:RS)(hs:RIn L s)(h2:s.opn<=200)(aj:s.opn+1<=200->PW L rec (s.opn+1)):VCalls prog 267 [.ptr 0 0,.int .i64 0] [rB L s] (RR L (zf8 L (zh7 L rec 0) s)):=by
 have hr:=zP5 L hL s hs om;have aa:=zl4 hs h2;have ab:=zb8 (L:=L) s;have ak:=zh5 (L:=L) (s:=s);have ho:=hs.opn;have hM:zf8 L (zh7 L rec 0) s=if(yO L s).err=0then((opsF L [wOR] (rec 1) L.length (rec 1 (yO L s))).1,outF (opsF L [wOR] (rec 1) L.length (rec 1 (yO L s))).2)else(zeroE,outF (yO L s)):=rfl;generalize zf8 L (zh7 L rec 0) s=M at hM⊢;generalize yO L s=s1 at hr aa ab ak hM;have eo:=zE7 (o:=s1.opn) om om;have ad:=yJ3;refine iV 1 func267 ntmps267 results267 λc hc hb=>?_;by_cases q1:s1.err=0;rotate_left
 .have ah:(s1.err==0)=false:=by simpa using q1
  rw[if_neg q1]at hM;rw[ah]at hr;refine zA ?_;simp[go_sem];refine pR hr ?_;simp[go_sem,rB,eo];exact zz5 (e:=zeroE) (s:=outF s1) hM
 have ah:(s1.err==0)=true:=by simpa using q1
 rw[if_pos q1]at hM;rw[ah]at hr;have hP:=aj (ak q1).2;have al:=hP.ok 1 s1 aa ab;have an:=yF0 L rec _ hP s1 aa ab;generalize rec 1 s1=x0 at al an hM;obtain⟨N,hN⟩:=eX L.length;rw[hN]at hM;refine zA ?_;simp[go_sem];refine pR hr ?_;simp[go_sem];refine za6 an cB (wN ⟨zD rfl,tV⟩) ?_;simp[go_sem];refine zH (S:=PR) [0,1,4,5] (λx=>[.ptr 0 0,.int .i64 0,.ptr 1 0,.ptr 2 0]) (λx=>[rB L x.2,zB,.box x.1.row]) (λx=>N-x.2.at_) (λx=>PI L s1 x/\∃n,N<=n+x.2.at_/\((opsF L [wOR] (rec 1) n x).1,outF (opsF L [wOR] (rec 1) n x).2)=M) hc hb x0 ⟨al,N,om,hM.symm⟩ ?_ ?_;.exact at_n 3 (by simp[go_sem,zB]) rfl (by simp[rB,zB,ltOb,ltC,ltK,GExpr.row_eq]) dc (zC sg rfl)
 rintro x⟨hx,n,hn,hinv⟩;have a6:=hx.rin.at_;have ae:=is_w L hL x.2 hx.rin wOR;have ao:=zs2 L hL x.2 hx.rin;have af:=hx.opn;obtain⟨aw,ax⟩:=yY6 L x.2 wOR dc;by_cases q:isT L wOR x.2=false
 .rw[q]at ae;have ay:M=(x.1,outF x.2):=by cases n with |zero=>exact hinv.symm|succ n=>rw[opsF,if_pos (aw.2 q)]at hinv;exact hinv.symm
  have az:IntKind.i64.wrap (x.2.opn-1)=x.2.opn-1:=by rw[af];exact eo
  refine zA ?_;simp[go_sem];refine pC ad ?_;simp[go_sem];refine pR ae ?_;simp[go_sem,rB,az];exact wM (s:=outF x.2) ay
 have q:isT L wOR x.2=true:=by simpa using q
 rw[q]at ae;obtain⟨n,rfl⟩:∃m,n=m+1:=⟨n-1,om⟩;have ag:=ax q;rw[opsF,if_neg (by rw[ag];decide),ag]at hinv;have aq:=hx.rin.next hL q;have hy:=hP.ok 1 (zP x.2) aq (by show x.2.opn=_;rw[af,ab]);have ar:=yF0 L rec _ hP (zP x.2) aq (by show x.2.opn=_;rw[af,ab]);generalize rec 1 (zP x.2)=y at hy ar hinv;have a1:=hy.up;rw[zb3]at a1;have au:∀e∈[x.1,y.1],Wide e:=λe he=>by
  simp only[Ag,Be,or_false]at he;rcases he with rfl|rfl;.exact hx.wide
  .exact hy.wide
 have hz:PI L s1 (opF (tokF L x.2).place wOR [x.1,y.1] y.2):=zM2 _ _ hy.rin (by rw[hy.opn];exact af) (by have:=hx.up;omega) (λhe=>(hx.err (hy.err he).1).1) sm au;have ai:=op_w L y.2 (tokF L x.2).place wOR [x.1,y.1] sm au (λhe=>by have h1:=(hy.err he).2;have h2:=(hx.err (hy.err he).1).2;simp only[xM];omega);have av:(opF (tokF L x.2).place wOR [x.1,y.1] y.2).2.at_=y.2.at_:=zO8 _ _ _ _;generalize opF (tokF L x.2).place wOR [x.1,y.1] y.2=z at hz ai hinv av;have a7:=hz.rin.at_;have hl:=hL.len;have ei:IntKind.i64.wrap ((x.2.at_:Int)+1)=((x.2.at_+1:Nat):Int):=by rw[i64_id om om];omega
 simp only[Al,Bs,GExpr.row_eq]at ai;refine zA ?_;simp[go_sem];refine pC ad ?_;simp[go_sem];refine pR ae ?_;simp[go_sem];refine pR ao ?_;simp[go_sem,rB,ei];refine zb0 [(2,0),(11,3),(13,3)] 1 3 sm kR kR ?_;simp[go_sem];refine pD ad ?_;simp[go_sem];refine zt1 ar cB (wN ⟨zD rfl,tV⟩) ?_;simp[go_sem,GExpr.row_eq];refine zt1 ai cB (wN ⟨zD rfl,zD rfl,zQ,tV⟩) ?_;simp[go_sem,GExpr.row_eq];refine zG z ⟨om,⟨hz,n,om,hinv⟩,?_⟩;exact at_n 3 (by simp[go_sem,rB,zB,GExpr.row_eq]) rfl (by simp[zB,ltOb,ltC,ltK,GExpr.row_eq]) dc (zC sg rfl)
theorem xr0(L:List GToken)(hL:LIn L)(rec:Nat->RS->PR)(s:RS)(hs:RIn L s)(h2:s.opn<=200)(aj:s.opn+1<=200->PW L rec (s.opn+1)):VCalls prog 267 [.ptr 0 0,.int .i64 1] [rB L s] (RR L (zf8 L (zh7 L rec 1) s)):=by
 have hr:=zP5 L hL s hs om;have aa:=zl4 hs h2;have ab:=zb8 (L:=L) s;have ak:=zh5 (L:=L) (s:=s);have ho:=hs.opn;have hM:zf8 L (zh7 L rec 1) s=if(yO L s).err=0then((opsF L [wAND] (rec 2) L.length (rec 2 (yO L s))).1,outF (opsF L [wAND] (rec 2) L.length (rec 2 (yO L s))).2)else(zeroE,outF (yO L s)):=rfl;generalize zf8 L (zh7 L rec 1) s=M at hM⊢;generalize yO L s=s1 at hr aa ab ak hM;have eo:=zE7 (o:=s1.opn) om om;have ad:=yJ3;refine iV 1 func267 ntmps267 results267 λc hc hb=>?_;by_cases q1:s1.err=0;rotate_left
 .have ah:(s1.err==0)=false:=by simpa using q1
  rw[if_neg q1]at hM;rw[ah]at hr;refine zA ?_;simp[go_sem];refine pR hr ?_;simp[go_sem,rB,eo];exact zz5 (e:=zeroE) (s:=outF s1) hM
 have ah:(s1.err==0)=true:=by simpa using q1
 rw[if_pos q1]at hM;rw[ah]at hr;have hP:=aj (ak q1).2;have al:=hP.ok 2 s1 aa ab;have an:=yF1 L rec _ hP s1 aa ab;generalize rec 2 s1=x0 at al an hM;obtain⟨N,hN⟩:=eX L.length;rw[hN]at hM;refine zA ?_;simp[go_sem];refine pR hr ?_;simp[go_sem];refine za6 an cB (wN ⟨zD rfl,tV⟩) ?_;simp[go_sem];refine zH (S:=PR) [0,1,4,5] (λx=>[.ptr 0 0,.int .i64 1,.ptr 1 0,.ptr 2 0]) (λx=>[rB L x.2,zB,.box x.1.row]) (λx=>N-x.2.at_) (λx=>PI L s1 x/\∃n,N<=n+x.2.at_/\((opsF L [wAND] (rec 2) n x).1,outF (opsF L [wAND] (rec 2) n x).2)=M) hc hb x0 ⟨al,N,om,hM.symm⟩ ?_ ?_;.exact at_n 3 (by simp[go_sem,zB]) rfl (by simp[rB,zB,ltOb,ltC,ltK,GExpr.row_eq]) dc (zC sg rfl)
 rintro x⟨hx,n,hn,hinv⟩;have a6:=hx.rin.at_;have ae:=is_w L hL x.2 hx.rin wAND;have ao:=zs2 L hL x.2 hx.rin;have af:=hx.opn;obtain⟨aw,ax⟩:=yY6 L x.2 wAND dc;by_cases q:isT L wAND x.2=false
 .rw[q]at ae;have ay:M=(x.1,outF x.2):=by cases n with |zero=>exact hinv.symm|succ n=>rw[opsF,if_pos (aw.2 q)]at hinv;exact hinv.symm
  have az:IntKind.i64.wrap (x.2.opn-1)=x.2.opn-1:=by rw[af];exact eo
  refine zA ?_;simp[go_sem];refine pC ad ?_;simp[go_sem];refine pR ae ?_;simp[go_sem,rB,az];exact wM (s:=outF x.2) ay
 have q:isT L wAND x.2=true:=by simpa using q
 rw[q]at ae;obtain⟨n,rfl⟩:∃m,n=m+1:=⟨n-1,om⟩;have ag:=ax q;rw[opsF,if_neg (by rw[ag];decide),ag]at hinv;have aq:=hx.rin.next hL q;have hy:=hP.ok 2 (zP x.2) aq (by show x.2.opn=_;rw[af,ab]);have ar:=yF1 L rec _ hP (zP x.2) aq (by show x.2.opn=_;rw[af,ab]);generalize rec 2 (zP x.2)=y at hy ar hinv;have a1:=hy.up;rw[zb3]at a1;have au:∀e∈[x.1,y.1],Wide e:=λe he=>by
  simp only[Ag,Be,or_false]at he;rcases he with rfl|rfl;.exact hx.wide
  .exact hy.wide
 have hz:PI L s1 (opF (tokF L x.2).place wAND [x.1,y.1] y.2):=zM2 _ _ hy.rin (by rw[hy.opn];exact af) (by have:=hx.up;omega) (λhe=>(hx.err (hy.err he).1).1) sm au;have ai:=op_w L y.2 (tokF L x.2).place wAND [x.1,y.1] sm au (λhe=>by have h1:=(hy.err he).2;have h2:=(hx.err (hy.err he).1).2;simp only[xM];omega);have av:(opF (tokF L x.2).place wAND [x.1,y.1] y.2).2.at_=y.2.at_:=zO8 _ _ _ _;generalize opF (tokF L x.2).place wAND [x.1,y.1] y.2=z at hz ai hinv av;have a7:=hz.rin.at_;have hl:=hL.len;have ei:IntKind.i64.wrap ((x.2.at_:Int)+1)=((x.2.at_+1:Nat):Int):=by rw[i64_id om om];omega
 simp only[Al,Bs,GExpr.row_eq]at ai;refine zA ?_;simp[go_sem];refine pC ad ?_;simp[go_sem];refine pR ae ?_;simp[go_sem];refine pR ao ?_;simp[go_sem,rB,ei];refine zb0 [(2,0),(11,3),(13,3)] 1 3 sm kR kR ?_;simp[go_sem];refine pD ad ?_;simp[go_sem];refine zt1 ar cB (wN ⟨zD rfl,tV⟩) ?_;simp[go_sem,GExpr.row_eq];refine zt1 ai cB (wN ⟨zD rfl,zD rfl,zQ,tV⟩) ?_;simp[go_sem,GExpr.row_eq];refine zG z ⟨om,⟨hz,n,om,hinv⟩,?_⟩;exact at_n 3 (by simp[go_sem,rB,zB,GExpr.row_eq]) rfl (by simp[zB,ltOb,ltC,ltK,GExpr.row_eq]) dc (zC sg rfl)
end Go.Proofs.YtefbicjgbaaieaaGreat
