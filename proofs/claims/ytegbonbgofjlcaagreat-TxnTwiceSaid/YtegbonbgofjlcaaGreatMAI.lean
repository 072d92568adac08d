/-
  The document's reader of statements: what a SELECT tells, and WHERE, over trees (the library Vx); used by the theorem at the end of the claim.
  Conditions: as each theorem states them.
-/
import Derived.Test.YtegbonbgofjlcaaGreatMAE
import Derived.Test.YtegbonbgofjlcaaGreatMAF
set_option maxHeartbeats 8000000
namespace Go.Proofs.YtegbonbgofjlcaaGreat
open Go Go.Vx Go.Proofs.Tryz
set_option maxRecDepth 100000
variable{τ:St}{P:Program}{c:Ctx}{f:FuncId}{cd:List V}{ct:List V}{KV:V->St->Prop}
def LS(s:alW):alW:=if s=[60]then[62]else if s=[60,61]then[62,61]else if s=[62]then[60]else if s=[62,61]then[60,61]else s
theorem wc5(s:alW):Pure prog 350 [.str s] (.str (LS s)):=by
 generalize hM:LS s=M;have ret:∀(r:alW)(I:St),r=M->cz (some (.str r)) 0 (λr s=>r=.str M/\s=[]) I:=λr I h=>by subst h;exact wR
 unfold LS at hM;refine iW 0 func350 ntmps350 results350 λc hc hb=>zM ?_;simp[go_sem];repeat'(first|(refine xG (λq=>?_) (λq=>?_)<;>simp[go_sem,q])|(refine zX (λq=>?_) (λq=>?_)<;>simp[go_sem,q]))
 all_goals exact ret _ _ (by simp_all)
def lp:List alW:=[[79,82],[65,78,68],[61],[60,62],[60],[60,61],[62],[62,61],[43],[45],[42],[47],[37]]
def ng:List alW:=[[78,79,84],[73,83,78,85,76,76],[78,79,84,78,85,76,76],[78,69,71]]
def uE(s:alW):Int:=if lp.contains s=true then 2 else if ng.contains s=true then 1 else 0
def vX(b:Bool):bK:=⟨1,if b then 1 else 0,[]⟩
theorem Hj(b:Bool):Pure prog 329 [.bool b] (.agg (vX b).row):=by refine iW 0 func329 ntmps329 results329 λc hc hb=>zM ?_;simp[go_sem];cases b<;>simp[go_sem]<;>exact wR
theorem LU(v:bK):Pure prog 432 [.agg v.row] (.bool (v.kind==0)):=by refine iW 0 func432 ntmps432 results432 λc hc hb=>zM ?_;simp[go_sem];exact wR
def y7(many Pq:Bool)(k:Int):Int×Int:=if many=false then(0,9)else if Pq=false then(0,15)else(k,0)
def wO(r:Int×Int):V:=.cC [.int .i64 r.1,.int .i64 r.2]
theorem nM{r:Int×Int}{a e:Int}{I:St}(h:r=(a,e)):cz (some (.cC [.int .i64 a,.int .i64 e])) 0 (λv s=>v=wO r/\s=[]) I:=by subst h;exact wR
theorem LV(many aa:Bool)(k:Int):Pure prog 422 [.bool many,.bool aa,.int .i64 k] (wO (y7 many aa k)):=by refine iW 0 func422 ntmps422 results422 λc hc hb=>zM ?_;cases many<;>cases aa<;>simp[go_sem]<;>exact nM rfl
def iP(l:alZ)(k:Int):Bool:=l.all λx=>x==k||x==0
theorem LW(l:alZ)(k:Int)(hl:l.length<=maxLen):Pure prog 423 [.sl .ro (l.map λn=>[V.int .i64 n]),.int .i64 k] (.bool (iP l k)):=by
 generalize hM:iP l k=M;have ret:∀(r:Bool)(I:St),r=M->cz (some (.bool r)) 0 (λr s=>r=.bool M/\s=[]) I:=λr I h=>by subst h;exact wR
 unfold iP at hM;refine iV 0 func423 ntmps423 results423 λc hc hb=>?_;refine zA ?_;simp[go_sem];refine zG (S:=Nat) [1,7,8,9] (λi=>[.int .i64 k,.sl .ro (l.map λn=>[V.int .i64 n]),.int .i64 l.length,.int .i64 i]) (λ_=>[]) (λi=>l.length-i) (λi=>i<=l.length/\((l.drop i).all λx=>x==k||x==0)=M) hc hb 0 ⟨A5 _,hM⟩ ?_ ?_;.exact aO
 rintro i⟨hi,hinv⟩;by_cases q:i<l.length;rotate_left;.have e:l.drop i=[]:=A8 om;rw[e]at hinv;refine zA ?_;simp[go_sem,q];exact ret _ _ hinv
 have ei:=zO q (by unfold maxLen at hl;omega);obtain⟨r,hr⟩:=eX (l[i]);rw[A4 q,Az,hr]at hinv;refine zA ?_;simp[go_sem,q,hr];by_cases w1:r=k;.simp[go_sem,w1,ei];rw[w1,beq_self_eq_true,Dm,Ba]at hinv;exact zH (i+1) ⟨om,⟨q,hinv⟩,aO⟩
 have aa:(r !=k)=true:=sU w1;by_cases w2:r=0
 .have w3:(r !=0)=false:=by simp[w2]
  simp[go_sem,aa,w3,ei];rw[w2,beq_self_eq_true,alV,Ba]at hinv;exact zH (i+1) ⟨om,⟨q,hinv⟩,aO⟩
 have ab:(r !=0)=true:=sU w2;simp[go_sem,aa,ab];exact ret _ _ (by rw[<-hinv,show(r==k)=false by simpa using w1,show(r==0)=false by simpa using w2];rfl)
def pT(s:alW)(l:alZ):Int×Int:=if s=[73,83,78,85,76,76]\/s=[78,79,84,78,85,76,76]then y7 ((l.length:Int)==1) true 1 else if s=[78,79,84]then y7 ((l.length:Int)==1) (iP l 1) 1 else if s=[78,69,71]then y7 ((l.length:Int)==1) (iP l 2) 2 else if s=[79,82]\/s=[65,78,68]then y7 ((l.length:Int)==2) (iP l 1) 1 else if s=[43]\/s=[45]\/s=[42]\/s=[47]\/s=[37]then y7 ((l.length:Int)==2) (iP l 2) 2 else if s=[61]\/s=[60,62]\/s=[60]\/s=[60,61]\/s=[62]\/s=[62,61]then y7 ((l.length:Int)==2) ((l.length:Int)==2&&(l.getD 0 0==l.getD 1 0||(l.getD 0 0==0||l.getD 1 0==0))) 1 else(0,9)
theorem yX6(s:alW)(x y:Int):Pure prog 375 [.str s,.sl .ro [[.int .i64 x],[.int .i64 y]]] (wO (pT s [x,y])):=by
 generalize hM:pT s [x,y]=M;have ret:∀(r:Int×Int)(I:St),r=M->cz (some (.cC [.int .i64 r.1,.int .i64 r.2])) 0 (λr s=>r=wO M/\s=[]) I:=λr I h=>by subst h;exact zQ (zC rfl) (by trivial)
 unfold pT at hM;have h1:=LW [x,y] 1 (by unfold maxLen;simp);have h2:=LW [x,y] 2 (by unfold maxLen;simp);simp only[Ag,Bq]at h1 h2;generalize iP [x,y] 1=a1 at h1 hM;generalize iP [x,y] 2=a2 at h2 hM;simp only[List.getD_cons_zero,List.getD_cons_succ]at hM;refine iW 0 func375 ntmps375 results375 λc hc hb=>zM ?_;simp[go_sem];repeat'(first |(refine zX (λq=>?_) (λq=>?_)<;>simp[go_sem,q])|(refine xG (λq=>?_) (λq=>?_)<;>simp[go_sem,q])|(refine yA [(23,0)] 0 rfl kR kR ?_;simp[go_sem])|(refine pC h1 ?_;simp[go_sem])|(refine pC h2 ?_;simp[go_sem])|(refine pC (LV _ _ _) ?_;simp[go_sem,wO])|(refine pD (LV _ _ _) ?_;simp[go_sem,wO]))
 all_goals first|exact ret _ _ (by simp_all)|exact ret (0,9) _ (by simp_all)
theorem yX7(s:alW)(l:alZ)(hl:l.length<=maxLen)(hn:((l.length:Int)==2)=false):Pure prog 375 [.str s,.sl .ro (l.map λn=>[V.int .i64 n])] (wO (pT s l)):=by
 generalize hM:pT s l=M;have ret:∀(r:Int×Int)(I:St),r=M->cz (some (.cC [.int .i64 r.1,.int .i64 r.2])) 0 (λr s=>r=wO M/\s=[]) I:=λr I h=>by subst h;exact zQ (zC rfl) (by trivial)
 unfold pT at hM;have h1:=LW l 1 hl;have h2:=LW l 2 hl;generalize iP l 1=a1 at h1 hM;generalize iP l 2=a2 at h2 hM;simp only[hn,Di]at hM;refine iW 0 func375 ntmps375 results375 λc hc hb=>zM ?_;simp[go_sem];repeat'(first |(refine zX (λq=>?_) (λq=>?_)<;>simp[go_sem,q,hn])|(refine yA [(23,0)] 0 rfl kR kR ?_;simp[go_sem])|(refine pC h1 ?_;simp[go_sem])|(refine pC h2 ?_;simp[go_sem])|(refine pC (LV _ _ _) ?_;simp[go_sem,wO])|(refine pD (LV _ _ _) ?_;simp[go_sem,wO]))
 all_goals first|exact ret _ _ (by simp_all)|exact ret (0,9) _ (by simp_all)
theorem xk4(s:alW)(l:alZ)(hl:l.length<=maxLen):Pure prog 375 [.str s,.sl .ro (l.map λn=>[V.int .i64 n])] (wO (pT s l)):=by
 by_cases h:l.length=2;.match l,h with|[x,y],_=>grind[yX6]
 grind[yX7]
theorem wX{ρ:Nat->Nat}{g:Tag}{rows eR:List (List V)}(h:eR=rows):cW ρ (.sl .ro eR) (.sl g rows):=by subst h;exact zK
theorem LX{n:Int}(h:0<=n)(h2:n<=255):IntKind.u8.wrap n=n:=by unfold IntKind.wrap;simp[IntKind.bits,IntKind.signed];omega
def yR(c:UInt8):UInt8:=if 97<=c.toNat/\c.toNat<=122then UInt8.ofNat (c.toNat-32)else c
def kg(c:UInt8):Bool:=decide (48<=c.toNat/\c.toNat<=57)
def nh(c:UInt8):Bool:=decide (65<=(yR c).toNat/\(yR c).toNat<=90)||decide (c.toNat=95)
theorem Pr(c:UInt8):Pure prog 222 [.int .u8 c.toNat] (.int .u8 (yR c).toNat):=by
 have hc:=c.toNat_lt;have ret:∀(r:Int)(I:St),r=((yR c).toNat:Int)->cz (some (.int .u8 r)) 0 (λr s=>r=.int .u8 (yR c).toNat/\s=[]) I:=λr I h=>by subst h;exact wR
 unfold yR at ret⊢;obtain⟨n,hn⟩:=eX c.toNat;have aa:n<=255->(UInt8.ofNat (n-32)).toNat=n-32:=λh=>by rw[UInt8.toNat_ofNat'];exact Ce om
 rw[hn]at hc ret⊢;refine iW 0 func222 ntmps222 results222 λc hc hb=>zM ?_;simp[go_sem];refine xG (λq=>?_) (λq=>?_)
 .have q1:97<=n:=by simp at q;omega
  simp[go_sem,q];refine zX (λq2=>?_) (λq2=>?_)
  .have q2:n<=122:=by simp at q2;omega
   have e1:IntKind.u8.wrap ((n:Int)-97)=(n:Int)-97:=LX om om;have e2:IntKind.u8.wrap ((n:Int)-97+65)=(n:Int)-97+65:=LX om om;simp[go_sem,e1,e2];exact ret _ _ (by rw[alq ⟨q1,q2⟩,aa om];omega)
  .have q2:¬n<=122:=by simp at q2;omega
   simp[go_sem];exact ret _ _ (by rw[alp (λh=>q2 h.2),hn])
 .have q1:¬97<=n:=by simp at q;omega
  simp[go_sem,q];exact ret _ _ (by rw[alp (λh=>q1 h.1),hn])
theorem Je(c:UInt8):Pure prog 221 [.int .u8 c.toNat] (.bool (kg c)):=by
 unfold kg;generalize c.toNat=n;generalize hM:decide (48<=n/\n<=57)=M;have ret:∀(r:Bool)(I:St),r=M->cz (some (.bool r)) 0 (λr s=>r=.bool M/\s=[]) I:=λr I h=>by subst h;exact wR
 refine iW 0 func221 ntmps221 results221 λc hc hb=>zM ?_;simp[go_sem];refine xG (λq=>?_) (λq=>?_);.simp[go_sem,q];refine ret _ _ ?_;rw[<-hM];simp at q;exact decide_eq_decide.2 om
 .simp[go_sem,q];refine ret _ _ ?_;rw[<-hM];simp at q;exact(alr om).symm
theorem LY(c:UInt8):Pure prog 220 [.int .u8 c.toNat] (.bool (nh c)):=by
 have hg:=Pr c;unfold nh;revert hg;generalize(yR c).toNat=g;generalize c.toNat=n;generalize hM:(decide (65<=g/\g<=90)||decide (n=95))=M;have ret:∀(r:Bool)(I:St),r=M->cz (some (.bool r)) 0 (λr s=>r=.bool M/\s=[]) I:=λr I h=>by subst h;exact wR
 have aa:∀(a:Nat)(b:Bool),((a:Int)==95)=b->decide (a=95)=b:=λa b h=>by
  rw[<-h];by_cases q:a=95;.subst q;rfl
  .rw[alr q];exact(beq_eq_false_iff_ne.2 om).symm
 intro hg;refine iW 0 func220 ntmps220 results220 λc hc hb=>zM ?_;simp[go_sem];refine pC hg ?_;simp[go_sem];refine xG (λq=>?_) (λq=>?_)
 .simp[go_sem,q];refine pC hg ?_;simp[go_sem];simp at q;refine xG (λq2=>?_) (λq2=>?_)
  .have q3:¬g<=90:=by simp at q2;omega
   simp[go_sem,q2];exact ret _ _ (by rw[<-hM,alr (λh=>q3 h.2),Bv];exact(aa n _ rfl).symm)
  .have q3:g<=90:=by simp at q2;omega
   simp[go_sem,q2];exact ret _ _ (by rw[<-hM,als ⟨om,q3⟩];rfl)
 .have q3:¬65<=g:=by simp at q;omega
  simp[go_sem,q];exact ret _ _ (by rw[<-hM,alr (λh=>q3 h.1),Bv];exact(aa n _ rfl).symm)
def jL:List alW:=[[65,76,76],[65,78,68],[65,83],[65,83,67],[66,69,84,87,69,69,78],[66,79,85,78,68],[66,89],[67,79,85,78,84],[68,69,76,69,84,69],[68,69,83,67],[69,88,65,67,84],[70,65,76,83,69],[70,82,79,77],[73,78,83,69,82,84],[73,78,84,79],[73,83],[76,73,77,73,84],[78,79,84],[78,85,76,76],[78,79,87],[79,70],[79,82],[79,82,68,69,82],[83,69,76,69,67,84],[83,69,84],[83,85,77],[83,89,83,84,69,77],[84,73,77,69],[84,82,85,69],[85,80,68,65,84,69],[86,65,76,85,69,83],[87,72,69,82,69]]
theorem LZ:jL.length=32:=rfl
theorem xf2:Pure prog 301 [] (.sl .ro (jL.map λs=>[.str s])):=by refine iW 0 func301 ntmps301 results301 λc hc hb=>zM ?_;simp[go_sem];exact zQ (wX (by simp[jL])) ⟨rfl,rfl⟩
def vY(c:UInt8):Bool:=(nh c||kg c)&&(yR c==c)
def l9(s:alW):Bool:=decide (1<=s.length/\s.length<=16)&&(!kg (s.headD 0)&&(s.all vY&&!jL.contains s))
theorem Pt(s:alW)(hl:s.length<=maxLen):Pure prog 228 [.str s] (.bool (l9 s)):=by
 generalize hM:l9 s=M;unfold l9 at hM;have ret:∀(r:Bool)(I:St),r=M->cz (some (.bool r)) 0 (λr s=>r=.bool M/\s=[]) I:=λr I h=>by subst h;exact wR
 refine iV 0 func228 ntmps228 results228 λc hc hb=>?_;refine zA ?_;simp[go_sem];by_cases h0:s.length=0;.have ae:((s.length:Int)==0)=true:=sU h0;simp[go_sem,ae];exact ret _ _ (by rw[<-hM,alr om];rfl)
 have ae:((s.length:Int)==0)=false:=sU h0;simp[go_sem,ae];by_cases ah:s.length<=16;rotate_left
 .have ad:decide (16<(s.length:Int))=true:=by simp;omega
  simp[go_sem,ad];exact ret _ _ (by rw[<-hM,alr om];rfl)
 have ad:decide (16<(s.length:Int))=false:=by simp;omega
 rw[als ⟨om,ah⟩,Ba]at hM;have hp:0<s.length:=om;obtain⟨c0,af⟩:∃c,s[0]=c:=⟨_,rfl⟩;have ai:s.headD 0=c0:=by rw[<-af];cases s with |nil=>simp at hp|cons x l=>rfl
 rw[ai]at hM;simp[go_sem,ad,hp,af];try(refine zJ om ?_;simp[go_sem])
 refine pC (Je c0) ?_;simp[go_sem];refine zX (λhd=>?_) (λhd=>?_);.simp[go_sem];exact ret _ _ (by rw[<-hM,hd];rfl)
 rw[hd,Bool.not_false,Ba]at hM;simp[go_sem];refine zG (S:=Nat) [0,3] (λi=>[.str s,.int .i64 i]) (λ_=>[]) (λi=>s.length-i) (λi=>i<=s.length/\(s.drop i).all vY=s.all vY) hc hb 0 ⟨A5 _,rfl⟩ ?_ ?_;.exact aO
 rintro i⟨hi,hinv⟩;refine zA ?_;simp[go_sem];refine zX (λq=>?_) (λq=>?_)
 .have q:i<s.length:=sU q;have ei:=zO q om;obtain⟨c1,aa⟩:∃c,s[i]=c:=⟨_,rfl⟩;rw[A4 q,Az,aa]at hinv;have cZ:vY c1=((nh c1||kg c1)&&(yR c1==c1)):=rfl;have g1:=LY c1;have g2:=Je c1;have g3:=Pr c1;have ab:(((yR c1).toNat:Int)!=(c1.toNat:Int))=!(yR c1==c1):=by
   by_cases h:yR c1=c1;.rw[h];simp
   .have:¬(yR c1).toNat=c1.toNat:=λw=>h (E5.1 w);rw[beq_eq_false_iff_ne.2 h];simp;omega
  revert cZ g1 g2 g3 ab;generalize nh c1=bl;generalize kg c1=bd;generalize aj:(yR c1==c1)=bg;generalize yR c1=cg;intro cZ g1 g2 g3 ab;have bad:∀(b:Bool)(I:St),vY c1=false->cz (some (.bool false)) 0 (λr s=>r=.bool M/\s=[]) I:=λb I h=>ret _ _ (by rw[<-hM,<-hinv,h];rfl);have eD:vY c1=true->(s.drop (i+1)).all vY=s.all vY:=λh=>by rw[<-hinv,h,Ba]
  simp[go_sem];refine yA [(3,0),(9,0),(16,0)] 0 rfl kR kR ?_;simp[go_sem,q,aa];refine pD g1 ?_;simp[go_sem];refine(A6 bl).elim (λw=>?_) (λw=>?_)
  .simp[go_sem,w,q,aa];refine pD g3 ?_;simp[go_sem,q,aa];refine zX (λw3=>?_) (λw3=>?_);.simp[go_sem];exact bad true _ (by rw[cZ,w];rw[ab]at w3;simpa using w3)
   .simp[go_sem,ei];exact zH (i+1) ⟨om,⟨q,eD (by rw[cZ,w];rw[ab]at w3;simpa using w3)⟩,aO⟩
  .simp[go_sem,w,q,aa];refine pD g2 ?_;simp[go_sem];refine(A6 bd).elim (λw2=>?_) (λw2=>?_)
   .simp[go_sem,w2,q,aa];refine pD g3 ?_;simp[go_sem,q,aa];refine zX (λw3=>?_) (λw3=>?_);.simp[go_sem];exact bad true _ (by rw[cZ,w,w2];rw[ab]at w3;simpa using w3)
    .simp[go_sem,ei];exact zH (i+1) ⟨om,⟨q,eD (by rw[cZ,w,w2];rw[ab]at w3;simpa using w3)⟩,aO⟩
   .simp[go_sem,w2];exact bad true _ (by rw[cZ,w,w2];rfl)
 .have q:i=s.length:=by have:¬i<s.length:=sU q;omega
  subst q;rw[Cn,De]at hinv;rw[<-hinv,Ba]at hM;simp[go_sem];refine pC xf2 ?_;simp[go_sem];refine zG (S:=Nat) [0,4,5] (λi=>[.str s,.sl .ro (jL.map λs=>[.str s]),.int .i64 i]) (λ_=>[]) (λi=>32-i) (λi=>i<=32/\(jL.drop i).contains s=jL.contains s) hc hb 0 ⟨A5 _,rfl⟩ ?_ ?_;.exact aO
  rintro i⟨hi,hinv⟩;refine zA ?_;simp[go_sem,LZ];refine zX (λq=>?_) (λq=>?_)
  .have q:i<32:=by simp at q;omega
   have q2:i<jL.length:=by rw[LZ];exact q
   have ei:=zO q om;obtain⟨x,hx⟩:=eX (jL[i]);rw[A4 q2,Dl,hx]at hinv;simp[go_sem,LZ,q,hx];try(refine zJ om ?_;simp[go_sem])
   refine zX (λw=>?_) (λw=>?_);.have w:x=s:=sU w;simp[go_sem];exact ret _ _ (by rw[<-hM,<-hinv,w];simp)
   .have w:¬x=s:=sU w;have w2:(s==x)=false:=beq_eq_false_iff_ne.2 λh=>w h.symm;rw[w2,Bv]at hinv;simp[go_sem,ei];exact zH (i+1) ⟨om,⟨q,hinv⟩,aO⟩
  .have q:i=32:=by simp at q;omega
   subst q;rw[Bt (by rw[LZ];exact A7 _)]at hinv;simp[go_sem];exact ret _ _ (by rw[<-hM,<-hinv];rfl)
structure bR where
 kind:Int
 place:Int
 s:alW
 n:Int deriving DecidableEq
@[go_sem]def bR.row(x:bR):List V:=[.int .i64 x.kind,.int .i64 x.place,.str x.s,.int .i64 x.n]
structure RS where
 at_:Nat
 cp:Int
 err:Int
 place:Int deriving DecidableEq
def rB(L:List bR)(s:RS):Ob:=.box [.sl .ro (L.map bR.row),.int .i64 (s.at_:Int),.int .i64 s.cp,.int .i64 s.err,.int .i64 s.place]
theorem L4(L:List bR)(s:RS)(n:Nat):bS n (rB L s)=true:=by rfl
def mH:bR:=⟨0,0,[],0⟩
def cK(L:List bR)(s:RS):bR:=L.getD s.at_ mH
def iZ(e place:Int)(s:RS):RS:=if s.err=0then{s with err:=e,place:=place}else s
def zV (s:RS):RS:={s with at_:=s.at_+1}
def dV (s:RS):RS:={s with cp:=s.cp - 1}
def dH(L:List bR)(w:alW)(s:RS):Bool:=s.err==0&&(((cK L s).kind==1||(cK L s).kind==4)&&(cK L s).s==w)
def ni(L:List bR)(w:alW)(s:RS):RS:=if dH L w s=true then zV s else s
def yJ(L:List bR)(w:alW)(s:RS):RS:=if dH L w s=true then zV s else iZ 13 (cK L s).place s
def Hk(L:List bR)(s:RS):Bool:=s.err==0&&((cK L s).kind==1&&l9 (cK L s).s)
def xH(L:List bR)(s:RS):alW×RS:=if Hk L s=true then((cK L s).s,zV s)else([],iZ 13 (cK L s).place s)
def uF(L:List bR)(s:RS):Bool:=s.err==0&&(cK L s).kind==2
def iB(L:List bR)(s:RS):Int×RS:=if uF L s=true then((cK L s).n,zV s)else(0,iZ 13 (cK L s).place s)
def eL(L:List bR)(s:RS):List alW->alW |[]=>[]|w::ws=>if dH L w s=true then w else eL L s ws
def yX(L:List bR)(s:RS):RS:=if s.err=0/\s.cp+1>200then{s with cp:=s.cp+1,err:=3,place:=(cK L s).place}else{s with cp:=s.cp+1}
structure dI(L:List bR)(s:RS):Prop where
 at_:s.at_<L.length
 cp:0<=s.cp/\s.cp<=100000
structure fk(L:List bR):Prop where len:L.length<=1000000last:∀i,L.length=i+1->(L.getD i mH).kind=0y8:∀t∈L,t.s.length<=maxLen
theorem fk.next{L:List bR}(h:fk L){s:RS}(hs:dI L s)(hk:(cK L s).kind≠0):dI L (zV s):=by
 refine⟨?_,hs.cp⟩;have h1:=hs.at_;rcases C3 (s.at_+1) L.length with h2|h2;.exact h2
 .exact absurd (h.last s.at_ om) hk
theorem xT8{L:List bR}{w:alW}{s:RS}(h:dH L w s):(cK L s).kind≠0/\s.err=0:=by simp_all[dH];omega
theorem oi(L:List bR)(hL:fk L)(s:RS)(hs:dI L s):bN prog 78 [.ptr 0 0] [rB L s] (λr I=>r=.agg (cK L s).row/\I=[rB L s]):=by
 have h1:=hs.at_;have hl:=hL.len;obtain⟨t,ht⟩:=eX (L[s.at_]);have aa:cK L s=t:=by unfold cK;grind
 rw[aa];refine iW 1 func78 ntmps78 results78 λc hc hb=>zM ?_;simp[go_sem,rB];refine xV [(10,4)] 2 sM (by rfl) kR ?_;simp[go_sem,h1,ht];exact yW 1 rfl rfl rfl om (zC rfl) sM
theorem Jf{args:List V}{L:List bR}{s s':RS}{v:V}(hc:bN P f ct [rB L s] (λr I=>r=v/\I=[rB L s']))(hb:xI P f)(aa:bP (cW (cO [0] (τ.length+1))) ct (args++cd))(hn:gY v)(hk:KV v (rB L s'::τ)):jn P c (.fn f cd) args (rB L s::τ) KV fx:=by
 refine mY 0 hc hb rfl (by rfl) aa (by grind[L4]) ?_;rintro r o2⟨rfl,h2⟩;obtain rfl:o2=rB L s':=by grind
 grind[CI]
theorem uG{n:Nat}{args:List V}{L:List bR}{s s':RS}{v:V}(hc:bN P f ct [rB L s] (λr I=>r=v/\I=[rB L s']))(hb:xI P f)(aa:bP (cW (cO [0] (τ.length+1))) ct (args++cd))(hn:gY v)(hk:KV v (rB L s'::τ)):qS P c ⟨1,n,[],none⟩ 3 (.fn f cd) args (rB L s::τ) KV fx:=wr2 hc hb rfl (by rfl) (by rfl) aa hn hk
theorem wT{N:Nat}{l l':List V}(h:bP (cW (cO [0] N)) l l'):bP (cW (cO [0] N)) (.ptr 0 0::l) (.ptr 0 0::l'):=⟨.inl rfl,h⟩
theorem gj{N:Nat}:bP (cW (cO [0] N)) [.ptr 0 0] [.ptr 0 0]:=wT trivial
theorem pR{args:List V}{L:List bR}{s s':RS}{v:V}(hc:bN P f ct [rB L s] (λr I=>r=v/\I=[rB L s']))(hk:KV v (rB L s'::τ))(aa:bP (cW (cO [0] (τ.length+1))) ct (args++cd):=by first|exact gj|exact wT (yD rfl)|exact wT ⟨zK,yD rfl⟩|exact wT ⟨zC rfl,zK,yD rfl⟩|exact wT ⟨zK,zK,yD rfl⟩)(hb:xI P f=true:=by kernel_rfl)(hn:gY v=true:=by rfl):jn P c (.fn f cd) args (rB L s::τ) KV fx:=Jf hc hb aa hn hk
theorem xS{R:V->St->Prop}{L:List bR}{s:RS}{v r:V}(hr:cW (cO (List.range 1) (rB L s::τ).length) r v)(hR:R r [rB L s]):cz (some v) 1 R (rB L s::τ):=yW 1 rfl rfl (by rfl) om hr hR
theorem jM(L:List bR)(hL:fk L)(s:RS)(hs:dI L s)(w:alW):bN prog 77 [.ptr 0 0,.str w] [rB L s] (λr I=>r=.bool (dH L w s)/\I=[rB L s]):=by
 have ht:=oi L hL s hs;have aa:(cK L s).s.length<=maxLen:=by unfold cK;rw[Aj,A0 hs.at_];exact hL.y8 _ sM
 generalize hM:dH L w s=M;unfold dH at hM;obtain⟨t,ab⟩:=eX (cK L s);rw[ab]at hM ht aa;have ret:∀(r:Bool)(τ:St),r=M->cz (some (.bool r)) 1 (λr I=>r=.bool M/\I=[rB L s]) (rB L s::τ):=λr τ h=>by subst h;exact xS (zC rfl) sM
 refine iW 1 func77 ntmps77 results77 λc hc hb=>zM ?_;simp[go_sem];refine pR ht ?_;simp[go_sem,rB];repeat'(first|(refine xG (λq=>?_) (λq=>?_)<;>simp[go_sem,q])|(refine zX (λq=>?_) (λq=>?_)<;>simp[go_sem,q]))
 all_goals exact ret _ _ (by rw[<-hM];simp_all)
theorem Fv(L:List bR)(hL:fk L)(s:RS)(hs:dI L s)(w:alW):bN prog 76 [.ptr 0 0,.str w] [rB L s] (λr I=>r=.bool (dH L w s)/\I=[rB L (ni L w s)]):=by
 have hi:=jM L hL s hs w;have h1:=hs.at_;have hl:=hL.len;have ei:IntKind.i64.wrap ((s.at_:Int)+1)=((s.at_+1:Nat):Int):=by grind[bX]
 unfold ni;generalize dH L w s=b at hi;refine iW 1 func76 ntmps76 results76 λc hc hb=>zM ?_;simp[go_sem];refine pR hi ?_;simp[go_sem,rB];refine(A6 b).elim (λq=>?_) (λq=>?_);all_goals subst q
 all_goals simp[go_sem,ei]
 .exact xS (s:=zV s) (zC rfl) (by trivial)
 .exact xS (s:=s) (zC rfl) (by trivial)
theorem DH(L:List bR)(s:RS)(e p:Int):bN prog 81 [.ptr 0 0,.int .i64 e,.int .i64 p] [rB L s] (λr I=>r=.cC []/\I=[rB L (iZ e p s)]):=by
 unfold iZ;refine iW 1 func81 ntmps81 results81 λc hc hb=>zM ?_;simp[go_sem,rB];refine zX (λq=>?_) (λq=>?_)
 .have q:s.err=0:=by grind
  simp[go_sem,q];exact xS (s:={s with err:=e,place:=p}) (zC rfl) (by trivial)
 .have q:¬s.err=0:=by grind
  simp[go_sem,q];exact xS (s:=s) (zC rfl) (by trivial)
theorem ma(L:List bR)(hL:fk L)(s:RS)(hs:dI L s)(w:alW):bN prog 79 [.ptr 0 0,.str w] [rB L s] (λr I=>r=.cC []/\I=[rB L (yJ L w s)]):=by
 have he:=Fv L hL s hs w;have ht:=oi L hL s hs;have hf:=DH L s 13 (cK L s).place;unfold ni at he;unfold yJ;generalize dH L w s=b at he;refine iW 1 func79 ntmps79 results79 λc hc hb=>zM ?_;simp[go_sem];refine pR he ?_;simp[go_sem];refine(A6 b).elim (λq=>?_) (λq=>?_);all_goals subst q
 all_goals simp[go_sem]
 .exact xS (zC rfl) sM
 .refine pR ht ?_;simp[go_sem];refine pR hf ?_;simp[go_sem];exact xS (zC rfl) sM
theorem Fw(L:List bR)(hL:fk L)(s:RS)(hs:dI L s):bN prog 154 [.ptr 0 0] [rB L s] (λr I=>r=.str (xH L s).1/\I=[rB L (xH L s).2]):=by
 have ht:=oi L hL s hs;have hf:=DH L s 13 (cK L s).place;have ad:(cK L s).s.length<=maxLen:=by unfold cK;rw[Aj,A0 hs.at_];exact hL.y8 _ sM
 have hw:=Pt (cK L s).s ad;have h1:=hs.at_;have hl:=hL.len;have ei:IntKind.i64.wrap ((s.at_:Int)+1)=((s.at_+1:Nat):Int):=by grind[bX]
 have ab:Hk L s=false->xH L s=([],iZ 13 (cK L s).place s):=λh=>by unfold xH;grind
 have aa:Hk L s=true->xH L s=((cK L s).s,zV s):=λh=>by unfold xH;grind
 generalize xH L s=M at ab aa⊢;unfold Hk at ab aa;obtain⟨t,ae⟩:=eX (cK L s);rw[ae]at ht hf hw ab aa;obtain⟨b,af⟩:=eX (l9 t.s);rw[af]at hw ab aa;have key:((s.err==0&&(t.kind==1&&b))=false/\(s.err !=0)=true)\/((s.err==0&&(t.kind==1&&b))=false/\(s.err !=0)=false/\(t.kind !=1)=true)\/((s.err==0&&(t.kind==1&&b))=b/\(s.err !=0)=false/\(t.kind !=1)=false):=by grind
 have no:∀τ:St,M=([],iZ 13 t.place s)->cz (some (.str [])) 1 (λr I=>r=.str M.1/\I=[rB L M.2]) (rB L (iZ 13 t.place s)::τ):=λτ h=>by subst h;exact xS (zC rfl) sM
 refine iW 1 func154 ntmps154 results154 λc hc hb=>zM ?_;simp[go_sem];refine pR ht ?_;simp[go_sem,rB];refine key.elim (λ⟨q1,q2⟩=>?_) λkey=>key.elim (λ⟨q1,q2,q3⟩=>?_) λ⟨q1,q2,q3⟩=>?_;.simp[go_sem,q2];refine pR hf ?_;simp[go_sem];exact no _ (ab q1)
 .simp[go_sem,q2,q3];refine pR hf ?_;simp[go_sem];exact no _ (ab q1)
 .simp[go_sem,q2,q3];refine pC hw ?_;refine(A6 b).elim (λq=>?_) (λq=>?_);.have hM:=aa (q1.trans q);subst q;subst hM;simp[go_sem,ei];exact xS (s:=zV s) (zC rfl) (by trivial)
  .have hM:=ab (q1.trans q);subst q;simp[go_sem];refine pR hf ?_;simp[go_sem];exact no _ hM
theorem Hl(L:List bR)(hL:fk L)(s:RS)(hs:dI L s):bN prog 80 [.ptr 0 0] [rB L s] (λr I=>r=.int .i64 (iB L s).1/\I=[rB L (iB L s).2]):=by
 have ht:=oi L hL s hs;have hf:=DH L s 13 (cK L s).place;have h1:=hs.at_;have hl:=hL.len;have ei:IntKind.i64.wrap ((s.at_:Int)+1)=((s.at_+1:Nat):Int):=by grind[bX]
 have ab:uF L s=false->iB L s=(0,iZ 13 (cK L s).place s):=λh=>by unfold iB;grind
 have aa:uF L s=true->iB L s=((cK L s).n,zV s):=λh=>by unfold iB;grind
 generalize iB L s=M at ab aa⊢;unfold uF at ab aa;obtain⟨t,ad⟩:=eX (cK L s);rw[ad]at ht hf ab aa;have key:((s.err==0&&t.kind==2)=false/\(s.err !=0)=true)\/((s.err==0&&t.kind==2)=false/\(s.err !=0)=false/\(t.kind !=2)=true)\/((s.err==0&&t.kind==2)=true/\(s.err !=0)=false/\(t.kind !=2)=false):=by grind
 have no:∀τ:St,M=(0,iZ 13 t.place s)->cz (some (.int .i64 0)) 1 (λr I=>r=.int .i64 M.1/\I=[rB L M.2]) (rB L (iZ 13 t.place s)::τ):=λτ h=>by subst h;exact xS (zC rfl) sM
 refine iW 1 func80 ntmps80 results80 λc hc hb=>zM ?_;simp[go_sem];refine pR ht ?_;simp[go_sem,rB];refine key.elim (λ⟨q1,q2⟩=>?_) λkey=>key.elim (λ⟨q1,q2,q3⟩=>?_) λ⟨q1,q2,q3⟩=>?_;.simp[go_sem,q2];refine pR hf ?_;simp[go_sem];exact no _ (ab q1)
 .simp[go_sem,q2,q3];refine pR hf ?_;simp[go_sem];exact no _ (ab q1)
 .have hM:=aa q1;subst hM;simp[go_sem,q2,q3,ei];exact xS (s:=zV s) (zC rfl) (by trivial)
theorem DI(L:List bR)(hL:fk L)(s:RS)(hs:dI L s)(ws:List alW)(hw:ws.length<=1000):bN prog 73 [.ptr 0 0,.sl .ro (ws.map λw=>[V.str w])] [rB L s] (λr I=>r=.str (eL L s ws)/\I=[rB L s]):=by
 generalize hM:eL L s ws=M;have ret:∀(r:alW)(τ:St),r=M->cz (some (.str r)) 1 (λr I=>r=.str M/\I=[rB L s]) (rB L s::τ):=λr τ h=>by subst h;exact xS (zC rfl) sM
 refine iV 1 func73 ntmps73 results73 λc hc hb=>?_;refine zA ?_;simp[go_sem];refine zG (S:=Nat) [0,1,5] (λi=>[.ptr 0 0,.sl .ro (ws.map λw=>[V.str w]),.int .i64 i]) (λ_=>[rB L s]) (λi=>ws.length-i) (λi=>i<=ws.length/\eL L s (ws.drop i)=M) hc hb 0 (by grind) ?_ ?_;.exact bU 1 (by rfl) rfl (by rfl) om (zD (by rfl) rfl)
 rintro i⟨hi,hinv⟩;by_cases q:i<ws.length;rotate_left;.rw[A8 om]at hinv;refine zA ?_;simp[go_sem,q];exact ret _ _ hinv
 have ei:=zO q om;obtain⟨w,hx⟩:=eX (ws[i]);rw[A4 q,hx,eL]at hinv;have aa:=jM L hL s hs w;obtain⟨b,ab⟩:=eX (dH L w s);rw[ab]at aa hinv;refine zA ?_;simp[go_sem,q,hx];refine pR aa ?_;simp[go_sem];refine zX (λw1=>?_) (λw1=>?_);.rw[alq w1]at hinv;simp[go_sem,q,hx];exact ret _ _ hinv
 .rw[alp (by grind)]at hinv;simp[go_sem,ei];exact zH (i+1) ⟨om,(by grind),bU 1 rfl rfl (by rfl) om (zD (by rfl) rfl)⟩
theorem Fy(L:List bR)(hL:fk L)(s:RS)(hs:dI L s)(ad:s.cp<=1000):bN prog 367 [.ptr 0 0] [rB L s] (λr I=>r=.bool ((yX L s).err==0)/\I=[rB L (yX L s)]):=by
 have ho:=hs.cp;have ht:=oi L hL {s with cp:=s.cp+1} ⟨hs.at_,by grind⟩;have e0:cK L {s with cp:=s.cp+1}=cK L s:=rfl;rw[e0]at ht;have hf:=DH L {s with cp:=s.cp+1} 3 (cK L s).place;have ei:IntKind.i64.wrap (s.cp+1)=s.cp+1:=by grind[bX]
 refine iW 1 func367 ntmps367 results367 λc hc hb=>zM ?_;simp[go_sem,rB,ei];by_cases q1:s.err=0
 .have aa:(s.err==0)=true:=by grind
  by_cases q2:s.cp+1>200
  .have ab:decide (200<s.cp+1)=true:=(by grind);have hS:yX L s=iZ 3 (cK L s).place {s with cp:=s.cp+1}:=by simp_all[yX,iZ]
   rw[hS];simp[go_sem,aa,ab];refine pR ht ?_;simp[go_sem];refine pR hf ?_;unfold iZ;rw[alq q1];simp[go_sem,rB];exact xS (L:=L) (s:={s with cp:=s.cp+1,err:=3,place:=(cK L s).place}) (zC rfl) (by trivial)
  .have ab:decide (200<s.cp+1)=false:=(by grind);have hS:yX L s={s with cp:=s.cp+1}:=by simp_all[yX]
   rw[hS];simp[go_sem,aa,ab];exact xS (L:=L) (s:={s with cp:=s.cp+1}) (zC rfl) (by trivial)
 .have aa:(s.err==0)=false:=by grind
  have hS:yX L s={s with cp:=s.cp+1}:=by simp_all[yX]
  rw[hS];simp[go_sem,aa];exact xS (L:=L) (s:={s with cp:=s.cp+1}) (zC rfl) (by trivial)
theorem T7:Pure prog 369 [] (.sl .ro [[.sl .ro [[.str [79,82]]]],[.sl .ro [[.str [65,78,68]]]]]):=by refine iW 0 func369 ntmps369 results369 λc hc hb=>zM ?_;simp[go_sem];exact zQ zK sM
mutual
def iC:bJ->Nat|.mk _ _ _ args=>jY args+1def jY:List bJ->Nat |[]=>0|e::l=>max (iC e) (jY l)end
variable{e:bJ}{o:Int}{τ:St}{a:List bJ}
theorem y9(e:bJ):iC e=jY e.args+1:=by cases e;rfl
theorem Fz:∀(l:List bJ)(e:bJ),e∈l->iC e<=jY l
 |[],_,h=>by grind|x::l,e,h=>by
  rw[jY];rcases Af.1 h with rfl|h;.omega
  .have:=Fz l e h;omega
inductive fP:bJ->Prop|mk(e:bJ)(h:e.args.length<=1048576)(ha:∀x∈e.args,fP x):fP e
theorem fP.len(h:fP e):e.args.length<=1048576:=by cases h;omega
theorem fP.sub(h:fP e):∀x∈e.args,fP x:=by cases h;omega
def maxD(l:List bJ)(d:Nat):Nat:=l.foldl (λd e=>max d (iC e)) d
theorem T8:∀(l:List bJ)(d:Nat),maxD l d=max d (jY l)
 |[],d=>by grind[maxD,jY]|e::l,d=>by have:=T8 l (max d (iC e));unfold maxD at this⊢;rw[B7,this,jY];omega
theorem T9:∀(n:Nat)(e:bJ),iC e<=n->n<=1000000->fP e->Pure prog 420 [.agg e.row] (.int .i64 (iC e:Int))
 |0,e,h,_,_=>by grind[y9]|n+1,e,h,hn,hw=>by
  have ih:=T9 n;have ae:=y9 e;obtain⟨args,aa⟩:=eX e.args;have hlen:=hw.len;have ab:=hw.sub;rw[aa]at ae hlen ab;obtain⟨D,hD⟩:=eX (iC e);rw[hD]at ae h⊢;refine iV 0 func420 ntmps420 results420 λc hc hb=>?_;refine zA ?_;simp[go_sem];refine zG (S:=Nat×Nat) [1,3,4] (λu=>[.ptr 0 0,.int .i64 (u.2:Int),.int .i64 (u.1:Int)]) (λ_=>[.box e.row]) (λu=>args.length-u.1) (λu=>u.1<=args.length/\maxD (args.drop u.1) u.2=jY args/\u.2<=n) hc hb (0,0) (by simp[T8]) ?_ ?_;.exact bU 1 sg rfl (by simp[bS,cV,cR,bJ.bQ]) om (zD (by rfl) rfl)
  rintro⟨i,d⟩⟨hi,hinv,aj⟩;simp only at hi hinv aj;by_cases q:i<args.length;rotate_left
  .rw[A8 om]at hinv;have al:d=jY args:=hinv;have ei:IntKind.i64.wrap ((d:Int)+1)=(D:Int):=by grind[bX]
   refine zA ?_;simp[go_sem,q,aa,ei];exact zQ (zC rfl) sM
  have ei:=zO q om;obtain⟨x,hx⟩:=eX (args[i]);have af:x∈args:=(by grind);have ak:=Fz args x af;rw[A4 q,hx]at hinv;have ah:=ih x om om (ab x af);have ad:maxD (args.drop (i+1)) (max d (iC x))=jY args:=hinv;obtain⟨dx,ai⟩:=eX (iC x);rw[ai]at ah ad ak;refine zA ?_;simp[go_sem,q,aa,hx];refine zL ah cB (zR sg (by rw[bJ.bQ];rfl)) rfl ?_;simp[go_sem,ei];refine zH (i+1,max d dx) ⟨om,(by grind),?_⟩;refine bU 1 (by simp[go_sem,aa]) rfl (by simp[bS,cV,cR,bJ.bQ]) om (zD ?_ rfl);simp[go_sem];omega
abbrev PR:=bJ×RS
def dw:bJ:= .mk 0 [] ⟨0,0,[]⟩ []
def rV(w:alW)(args:List bJ):bJ:=.mk 3 w ⟨0,0,[]⟩ args
def kM (v:bK):bJ:= .mk 1 [] v []
def FA(w:alW):bJ:=.mk 2 w ⟨0,0,[]⟩ []
def oj(place:Int)(w:alW)(args:List bJ)(s:RS):RS:=if s.err=0/\16<iC (rV w args)then iZ 3 place s else s
def iG(place:Int)(w:alW)(args:List bJ)(s:RS):PR:=(rV w args,oj place w args s)
def kB(L:List bR)(k:RS->PR)(s:RS):PR:=if(yX L s).err=0then((k (yX L s)).1,dV (k (yX L s)).2)else(dw,dV (yX L s))
def fq(L:List bR)(ws:List alW)(sub:RS->PR):Nat->PR->PR|0,x=>x|n+1,x=>if eL L x.2 ws=[]then x else fq L ws sub n (iG (cK L x.2).place (eL L x.2 ws) [x.1,(sub (zV x.2)).1] (sub (zV x.2)).2)
def rW:alW:= [79,82]
def kh:alW:= [65,78,68]
def kN:alW:= [78,79,84]
def L5:alW:= [73,83]
def pU:alW:= [78,85,76,76]
def L6:alW:= [73,83,78,85,76,76]
def L7:alW:= [78,79,84,78,85,76,76]
def gz:List alW:=[[61],[60,62],[60],[60,61],[62],[62,61]]
def pV:List alW:= [[43],[45]]
def pW:List alW:= [[42],[47],[37]]
def oo(L:List bR)(rn rc:RS->PR)(s:RS):PR:=if dH L kN s=true then iG (cK L s).place kN [(rn (zV s)).1] (rn (zV s)).2else rc s
def oq(L:List bR)(sub:RS->PR)(x:PR):PR:=if dH L L5 x.2=true then if dH L kN (zV x.2)=true then iG (cK L x.2).place L7 [x.1] (yJ L pU (zV (zV x.2)))else iG (cK L x.2).place L6 [x.1] (yJ L pU (zV x.2))else if eL L x.2 gz=[]then x else iG (cK L x.2).place (eL L x.2 gz) [x.1,(sub (zV x.2)).1] (sub (zV x.2)).2
def uH(L:List bR)(un ex:RS->PR)(s:RS):PR:=if dH L [45] s=true then iG (cK L s).place [78,69,71] [(un (zV s)).1] (un (zV s)).2else if dH L [40] s=true then((ex (zV s)).1,yJ L [41] (ex (zV s)).2)else if dH L [84,82,85,69] s=true then(kM ⟨1,1,[]⟩,zV s)else if dH L [70,65,76,83,69] s=true then(kM ⟨1,0,[]⟩,zV s)else if dH L pU s=true then(kM ⟨0,0,[]⟩,zV s)else if(cK L s).kind=2then(kM ⟨2,(cK L s).n,[]⟩,zV s)else if(cK L s).kind=3then(kM ⟨3,0,(cK L s).s⟩,zV s)else(FA (xH L s).1,(xH L s).2)
def k5(L:List bR)(rec:Nat->RS->PR):Nat->RS->PR |0,s=>fq L [rW] (rec 1) L.length (rec 1 s)|1,s=>fq L [kh] (rec 2) L.length (rec 2 s)|2,s=>oo L (rec 2) (rec 3) s|3,s=>oq L (rec 4) (rec 4 s)|4,s=>fq L pV (rec 5) L.length (rec 5 s)|5,s=>fq L pW (rec 6) L.length (rec 6 s)|_,s=>uH L (rec 6) (rec 0) s
def pF(L:List bR):Nat->Nat->RS->PR |0,_,s=>(dw,s)|f+1,w,s=>kB L (k5 L (pF L f) w) s
structure PI(L:List bR)(s:RS)(x:PR):Prop where
 cG:dI L x.2cp:x.2.cp=s.cp
 up:s.at_<=x.2.at_
 err:x.2.err=0->s.err=0/\iC x.1<=16wide:fP x.1
theorem FB{e p:Int}{s:RS}(he:e≠0):(iZ e p s).err≠0:=by unfold iZ;split<;>simp_all
theorem Jg(e p:Int)(s:RS):(iZ e p s).at_=s.at_:=by unfold iZ;split<;>rfl
theorem Jh(e p:Int)(s:RS):(iZ e p s).cp=s.cp:=by unfold iZ;split<;>rfl
theorem Pu{L:List bR}{s:RS}(h:dI L s)(e p:Int):dI L (iZ e p s):=⟨by rw[Jg];exact h.at_,by rw[Jh];exact h.cp⟩
theorem FC(p:Int)(w:alW)(a:List bJ)(s:RS):(oj p w a s).at_=s.at_:=by unfold oj;split;exact Jg _ _ _;rfl
theorem L8(p:Int)(w:alW)(a:List bJ)(s:RS):(oj p w a s).cp=s.cp:=by unfold oj;split;exact Jh _ _ _;rfl
theorem Pv{p:Int}{w:alW}{s:RS}(h:(oj p w a s).err=0):s.err=0/\iC (rV w a)<=16:=by
 unfold oj at h;split at h;.exact absurd h (FB dC)
 .rename_i hc;refine⟨h,?_⟩;by_cases q:16<iC (rV w a);.exact absurd ⟨h,q⟩ hc
  .omega
theorem wz9{L:List bR}{s:RS}(h:dI L s)(p:Int)(w:alW)(a:List bJ):dI L (oj p w a s):=⟨by rw[FC];exact h.at_,by rw[L8];exact h.cp⟩
theorem Ua(p:Int)(w:alW)(a:List bJ)(s:RS):oj p w a (dV s)=dV (oj p w a s):=by
 unfold oj iZ dV;by_cases q:s.err=0/\16<iC (rV w a);.rw[alq q,alq q,alq q.1,alq q.1]
 .rw[alp q,alp q]
theorem xO7(w:alW)(a:List bJ):iC (rV w a)=jY a+1:=y9 _
theorem Ub{w:alW}(h:a.length<=1000000)(ha:∀x∈a,fP x):fP (rV w a):=.mk _ (show a.length<=1048576by omega) ha
theorem Uc(h:e.args=[]):fP e:=.mk _ (by simp[h]) (by simp[h])
def RR(L:List bR)(x:PR):V->St->Prop:=λr I=>r=.agg x.1.row/\I=[rB L x.2]
theorem wS{L:List bR}{s:RS}{x:PR}(h:x=(e,s)):cz (some (.agg [.int .i64 e.kind,.str e.s,.int .i64 e.v.kind,.int .i64 e.v.n,.str e.v.s,.sl .ro (e.args.map bJ.row)])) 1 (RR L x) (rB L s::τ):=by subst h;exact xS (zC rfl) ⟨by rw[bJ.bQ],rfl⟩
theorem Ud(e:bJ):gY (.agg e.row)=true:=by rw[bJ.bQ];rfl
theorem kC{P:Program}{c:Ctx}{f:FuncId}{cd args ct:List V}{L:List bR}{s:RS}{x:PR}{KV:V->St->Prop}(hc:bN P f ct [rB L s] (RR L x))(hb:xI P f)(aa:bP (cW (cO [0] (τ.length+1))) ct (args++cd))(hk:KV (.agg x.1.row) (rB L x.2::τ)):jn P c (.fn f cd) args (rB L s::τ) KV fx:=Jf hc hb aa (Ud _) hk
theorem tu{P:Program}{c:Ctx}{n:Nat}{f:FuncId}{cd args ct:List V}{L:List bR}{s:RS}{x:PR}{KV:V->St->Prop}(hc:bN P f ct [rB L s] (RR L x))(hb:xI P f)(aa:bP (cW (cO [0] (τ.length+1))) ct (args++cd))(hk:KV (.agg x.1.row) (rB L x.2::τ)):qS P c ⟨1,n,[],none⟩ 3 (.fn f cd) args (rB L s::τ) KV fx:=uG hc hb aa (Ud _) hk
theorem nj(L:List bR)(s:RS)(p:Int)(w:alW)(a:List bJ)(hl:a.length<=1000)(hw:∀x∈a,fP x)(hd:s.err=0->jY a<=1000):bN prog 370 [.ptr 0 0,.int .i64 p,.str w,.sl .ro (a.map bJ.row)] [rB L s] (RR L (iG p w a s)):=by
 obtain⟨D,hD⟩:=eX (iC (rV w a));have ad:=xO7 w a;rw[hD]at ad;have hf:=DH L s 3 p;have hS:iG p w a s=(rV w a,if s.err=0/\16<D then iZ 3 p s else s):=by unfold iG oj;rw[hD]
 generalize iG p w a s=M at hS⊢;refine iW 1 func370 ntmps370 results370 λc hc hb=>zM ?_;by_cases q1:s.err=0
 .have aa:(s.err==0)=true:=sU q1;have ae:=T9 1001 (rV w a) (by rw[hD,ad];have:=hd q1;omega) om (Ub om hw);rw[hD]at ae;simp[go_sem,rB,aa];refine zL ae cB (zR (by rw[bJ.bQ];rfl) rfl) rfl ?_;simp[go_sem];by_cases q2:16<D;.have ab:decide ((16:Int)<(D:Int))=true:=als om;rw[alq ⟨q1,q2⟩]at hS;simp[go_sem,ab];refine pR hf ?_;simp[go_sem];exact wS hS
  .have ab:decide ((16:Int)<(D:Int))=false:=alr om;rw[alp (λh=>q2 h.2)]at hS;simp[go_sem,ab];exact wS hS
 .have aa:(s.err==0)=false:=sU q1;rw[alp (λh=>q1 h.1)]at hS;simp[go_sem,rB,aa];exact wS hS
variable {L:List bR}
theorem ph(s:RS):(zV s).at_=s.at_+1:=rfl
theorem FD{s:RS}:∀{ws:List alW},eL L s ws≠[]->dH L (eL L s ws) s=true
 |[],h=>absurd rfl h|w::ws,h=>by
  unfold eL at h⊢;split;.assumption
  .rename_i hn;rw[alp hn]at h;exact FD h
theorem dI.next(hL:fk L){w:alW}{s:RS}(h:dI L s)(hi:dH L w s):dI L (zV s):=hL.next h (xT8 hi).1
theorem vZ(hL:fk L){w:alW}{s:RS}(h:dI L s):dI L (yJ L w s):=by
 unfold yJ;split;.exact h.next hL ‹_›
 .exact Pu h _ _
theorem FE(w:alW)(s:RS):s.at_<=(yJ L w s).at_:=by
 unfold yJ;split;.simp[zV]
 .rw[Jg];exact A7 _
theorem FF(w:alW)(s:RS):(yJ L w s).cp=s.cp:=by
 unfold yJ;split;.rfl
 .exact Jh _ _ _
theorem za{w:alW}{s:RS}(h:(yJ L w s).err=0):s.err=0/\dH L w s=true:=by
 unfold yJ at h;split at h;.exact⟨h,‹_›⟩
 .exact absurd h (FB dC)
theorem Ue(hL:fk L){s:RS}(h:dI L s):dI L (xH L s).2:=by
 unfold xH;split;.rename_i hb;unfold Hk at hb;simp only[Aa,alx]at hb;exact hL.next h (by rw[hb.2.1];decide)
 .exact Pu h _ _
theorem Uf(s:RS):s.at_<=(xH L s).2.at_:=by
 unfold xH;split;.simp[zV]
 .simp only[Jg];exact A7 _
theorem Ug(s:RS):(xH L s).2.cp=s.cp:=by
 unfold xH;split;.rfl
 .exact Jh _ _ _
theorem Pw{s:RS}(h:(xH L s).2.err=0):s.err=0/\Hk L s=true:=by
 unfold xH at h;split at h;.exact⟨h,‹_›⟩
 .exact absurd h (FB dC)
theorem wi1(h:e.args=[]):iC e=1:=by rw[y9,h];rfl
theorem v7{s0 s:RS}(p:Int)(w:alW)(h1:dI L s)(h2:s.cp=s0.cp)(h3:s0.at_<=s.at_)(h4:s.err=0->s0.err=0)(h5:a.length<=1000000)(h6:∀x∈a,fP x):PI L s0 (iG p w a s):=⟨wz9 h1 _ _ _,by show(oj p w a s).cp=_;rw[L8,h2],by show _<=(oj p w a s).at_;rw[FC];exact h3,λh=>⟨h4 (Pv h).1,(Pv h).2⟩,Ub h5 h6⟩
theorem Hm(hL:fk L){o:Int}{sub:RS->PR}(aa:∀s,dI L s->s.cp=o->PI L s (sub s))(ws:List alW){s0:RS}:∀(n:Nat)(x:PR),PI L s0 x->s0.cp=o->PI L s0 (fq L ws sub n x)
 |0,x,h,_=>h|n+1,x,h,ho=>by
  unfold fq;split;.exact h
  rename_i ab;have hi:=FD ab;have hx:=h.cp;have hy:=aa (zV x.2) (h.cG.next hL hi) (by show x.2.cp=o;rw[hx,ho]);refine Hm hL aa ws n _ (v7 _ _ hy.cG ?_ ?_ (λhe=>(h.err ?_).1) sM ?_) ho;.rw[hy.cp];exact hx
  .have h1:=hy.up;have h2:=h.up;rw[ph]at h1;omega
  .exact(hy.err he).1
  .intro e he;simp only[Af,Bs,alG]at he;rcases he with rfl|rfl;.exact h.wide
   .exact hy.wide
theorem wl8(hL:fk L){rn rc:RS->PR}(h1:∀s,dI L s->s.cp=o->PI L s (rn s))(h2:∀s,dI L s->s.cp=o->PI L s (rc s))(s:RS)(hs:dI L s)(ho:s.cp=o):PI L s (oo L rn rc s):=by
 unfold oo;split
 .rename_i hi;have hy:=h1 (zV s) (hs.next hL hi) ho;refine v7 _ _ hy.cG hy.cp ?_ (λhe=>(hy.err he).1) sM (λe he=>?_);.have h1:=hy.up;rw[ph]at h1;omega
  .simp only[Af,Bs,alG]at he;subst he;exact hy.wide
 .exact h2 s hs ho
theorem wh8(hL:fk L){sub:RS->PR}(aa:∀s,dI L s->s.cp=o->PI L s (sub s))(s:RS)(ho:s.cp=o)(x:PR)(h:PI L s x):PI L s (oq L sub x):=by
 have hx:=h.cp;have hu:=h.up;have w1:∀e∈[x.1],fP e:=λe he=>by simp only[Af,Bs,alG]at he;subst he;exact h.wide
 unfold oq;split
 .rename_i hi;have hn:=h.cG.next hL hi;split
  .rename_i ab;have ad:=hn.next hL ab;refine v7 _ _ (vZ hL ad) ?_ ?_ (λhe=>(h.err ?_).1) sM w1;.rw[FF];exact hx
   .have:=FE (L:=L) pU (zV (zV x.2));simp only[zV]at this⊢;omega
   .exact(za he).1
  .refine v7 _ _ (vZ hL hn) ?_ ?_ (λhe=>(h.err ?_).1) sM w1;.rw[FF];exact hx
   .have:=FE (L:=L) pU (zV x.2);simp only[zV]at this⊢;omega
   .exact(za he).1
 .split;.exact h
  rename_i ae;have hi:=FD ae;have hy:=aa (zV x.2) (h.cG.next hL hi) (by show x.2.cp=o;rw[hx,ho]);refine v7 _ _ hy.cG ?_ ?_ (λhe=>(h.err ?_).1) sM ?_;.rw[hy.cp];exact hx
  .have h1:=hy.up;rw[ph]at h1;omega
  .exact(hy.err he).1
  .intro e he;simp only[Af,Bs,alG]at he;rcases he with rfl|rfl;.exact h.wide
   .exact hy.wide
theorem FG{s:RS}(ha:e.args=[]){s2:RS}(h1:dI L s2)(h2:s2.cp=s.cp)(h3:s.at_<=s2.at_)(h4:s2.err=0->s.err=0):PI L s (e,s2):=⟨h1,h2,h3,λh=>⟨h4 h,by simp only;rw[wi1 ha];decide⟩,Uc ha⟩
theorem Uh(hL:fk L){un ex:RS->PR}(h1:∀s,dI L s->s.cp=o->PI L s (un s))(h2:∀s,dI L s->s.cp=o->PI L s (ex s))(s:RS)(hs:dI L s)(ho:s.cp=o):PI L s (uH L un ex s):=by
 unfold uH;split
 .rename_i hi;have hy:=h1 (zV s) (hs.next hL hi) ho;refine v7 _ _ hy.cG hy.cp ?_ (λhe=>(hy.err he).1) sM (λe he=>?_);.have h1:=hy.up;rw[ph]at h1;omega
  .simp only[Af,Bs,alG]at he;subst he;exact hy.wide
 split
 .rename_i hi;have hy:=h2 (zV s) (hs.next hL hi) ho;refine⟨vZ hL hy.cG,?_,?_,λhe=>?_,hy.wide⟩;.rw[FF];exact hy.cp
  .have h1:=hy.up;have h2:=FE (L:=L) [41] (ex (zV s)).2;rw[ph]at h1;show _<=(yJ L [41] (ex (zV s)).2).at_;omega
  .have:=hy.err (za he).1;exact this
 split;.exact FG rfl (hs.next hL ‹_›) rfl (by simp[zV]) id
 split;.exact FG rfl (hs.next hL ‹_›) rfl (by simp[zV]) id
 split;.exact FG rfl (hs.next hL ‹_›) rfl (by simp[zV]) id
 split;.exact FG rfl (hL.next hs om) rfl (by simp[zV]) id
 split;.exact FG rfl (hL.next hs om) rfl (by simp[zV]) id
 .exact FG rfl (Ue hL hs) (Ug s) (Uf s) (λh=>(Pw h).1)
theorem xN5(hL:fk L){rec:Nat->RS->PR}(h:∀w s,dI L s->s.cp=o->PI L s (rec w s)):∀(w:Nat)(s:RS),dI L s->s.cp=o->PI L s (k5 L rec w s) |0,s,hs,ho=>Hm hL (h 1) _ _ _ (h 1 s hs ho) ho|1,s,hs,ho=>Hm hL (h 2) _ _ _ (h 2 s hs ho) ho|2,s,hs,ho=>wl8 hL (h 2) (h 3) s hs ho|3,s,hs,ho=>wh8 hL (h 4) s ho _ (h 4 s hs ho)|4,s,hs,ho=>Hm hL (h 5) _ _ _ (h 5 s hs ho) ho|5,s,hs,ho=>Hm hL (h 6) _ _ _ (h 6 s hs ho) ho|_w+6,s,hs,ho=>Uh hL (h 6) (h 0) s hs ho
theorem L9(s:RS):(yX L s).at_=s.at_:=by unfold yX;split<;>rfl
theorem rX(s:RS):(yX L s).cp=s.cp+1:=by unfold yX;split<;>rfl
theorem v8{s:RS}(h:(yX L s).err=0):s.err=0/\s.cp+1<=200:=by
 unfold yX at h;split at h;.simp at h
 .rename_i hc;refine⟨h,?_⟩;by_cases q:s.cp+1>200;.exact absurd ⟨h,q⟩ hc
  .omega
theorem wa{s:RS}(hs:dI L s)(h:s.cp<=200):dI L (yX L s):=⟨by rw[L9];exact hs.at_,by rw[rX];have:=hs.cp;omega⟩
theorem Ui{s:RS}(hs:dI L s)(h:1<=s.cp):dI L (dV s):=⟨hs.at_,by have:=hs.cp;simp only[dV];omega⟩
theorem wa1{k:RS->PR}(s:RS)(hs:dI L s)(h2:s.cp<=200)(hk:(yX L s).err=0->PI L (yX L s) (k (yX L s))):PI L s (kB L k s):=by
 have hr:=wa hs h2;have ho:=hs.cp;unfold kB;split;.rename_i he;have hy:=hk he;have h1:=hy.cp;have h3:=hy.up;rw[rX]at h1;rw[L9]at h3;refine⟨Ui hy.cG om,?_,h3,λh=>⟨(v8 he).1,(hy.err h).2⟩,hy.wide⟩;simp only[dV];omega
 .rename_i he;refine FG rfl (Ui hr (by rw[rX];omega)) ?_ ?_ (λh=>absurd h he);.simp only[dV,rX];omega
  .simp only[dV,L9];exact A7 _
theorem Ma(hL:fk L):∀(f:Nat)(w:Nat)(s:RS),dI L s->s.cp<=200->201<=(f:Int)+s.cp->PI L s (pF L f w s)
 |0,w,s,hs,h2,hf=>by omega|f+1,w,s,hs,h2,hf=>by unfold pF;refine wa1 s hs h2 (λhe=>?_);have h3:=(v8 he).2;exact xN5 hL (o:=s.cp+1) (λw t ht ho=>Ma hL f w t ht om (by push_cast at hf;omega)) w _ (wa hs h2) (rX s)
structure PW(L:List bR)(rec:Nat->RS->PR)(o:Int):Prop where ok:∀w s,dI L s->s.cp=o->PI L s (rec w s)chain:∀k:Nat,k<=1->∀s,dI L s->s.cp=o->bN prog 300 [.ptr 0 0,.int .i64 (k:Int)] [rB L s] (RR L (rec k s))not:∀s,dI L s->s.cp=o->bN prog 419 [.ptr 0 0] [rB L s] (RR L (rec 2 s))cmp:∀s,dI L s->s.cp=o->bN prog 444 [.ptr 0 0] [rB L s] (RR L (rec 3 s))sum:∀s,dI L s->s.cp=o->bN prog 455 [.ptr 0 0] [rB L s] (RR L (rec 4 s))prod:∀s,dI L s->s.cp=o->bN prog 461 [.ptr 0 0] [rB L s] (RR L (rec 5 s))unary:∀s,dI L s->s.cp=o->bN prog 462 [.ptr 0 0] [rB L s] (RR L (rec 6 s))
theorem DJ{g:Tag}{L:List bR}{s:RS}{x:PR}(h:x=(e,s)):cz (some (.agg [.int .i64 e.kind,.str e.s,.int .i64 e.v.kind,.int .i64 e.v.n,.str e.v.s,.sl g (e.args.map bJ.row)])) 1 (RR L x) (rB L s::τ):=by subst h;refine xS (r:=.agg [.int .i64 e.kind,.str e.s,.int .i64 e.v.kind,.int .i64 e.v.n,.str e.v.s,.sl .ro (e.args.map bJ.row)]) (xM ⟨zF rfl,zF rfl,zF rfl,zF rfl,zF rfl,zY,tV⟩) ⟨by rw[bJ.bQ],rfl⟩
def zB:Ob:=.box [.int .i64 0,.str [],.int .i64 0,.int .i64 0,.str [],.sl .full []]
theorem FH(h0:0<=o)(h1:o<=1000):IntKind.i64.wrap (o-1)=o-1:=bX om om
theorem wG4(L:List bR)(hL:fk L)(rec:Nat->RS->PR)(s:RS)(hs:dI L s)(h2:s.cp<=200)(ak:s.cp+1<=200->PW L rec (s.cp+1)):bN prog 455 [.ptr 0 0] [rB L s] (RR L (kB L (k5 L rec 4) s)):=by
 have hr:=Fy L hL s hs om;have aa:=wa hs h2;have ab:=rX (L:=L) s;have al:=v8 (L:=L) (s:=s);have ho:=hs.cp;have hM:kB L (k5 L rec 4) s=if(yX L s).err=0then((fq L pV (rec 5) L.length (rec 5 (yX L s))).1,dV (fq L pV (rec 5) L.length (rec 5 (yX L s))).2)else(dw,dV (yX L s)):=rfl;generalize kB L (k5 L rec 4) s=M at hM⊢;generalize yX L s=s1 at hr aa ab al hM;have eo:=FH (o:=s1.cp) om om;refine iV 1 func455 ntmps455 results455 λc hc hb=>?_;by_cases q1:s1.err=0;rotate_left;.have af:(s1.err==0)=false:=sU q1;rw[alp q1]at hM;rw[af]at hr;refine zA ?_;simp[go_sem];refine pR hr ?_;simp[go_sem,rB,eo];exact DJ (e:=dw) (s:=dV s1) hM
 have af:(s1.err==0)=true:=sU q1;rw[alq q1]at hM;rw[af]at hr;have hP:=ak (al q1).2;have ah:=hP.ok 5 s1 aa ab;have an:=hP.prod s1 aa ab;generalize rec 5 s1=x0 at ah an hM;have ae:=DI L hL x0.2 ah.cG pV dC;obtain⟨N,hN⟩:=eX L.length;rw[hN]at hM;refine zA ?_;simp[go_sem];refine pR hr ?_;simp[go_sem];refine kC an cB gj ?_;simp[go_sem];refine pR ae ?_;simp[go_sem];refine zG (S:=PR) [0,2,3,4] (λx=>[.ptr 0 0,.ptr 1 0,.ptr 2 0,.str (eL L x.2 pV)]) (λx=>[rB L x.2,zB,.box x.1.row]) (λx=>N-x.2.at_) (λx=>PI L s1 x/\∃n,N<=n+x.2.at_/\((fq L pV (rec 5) n x).1,dV (fq L pV (rec 5) n x).2)=M) hc hb x0 ⟨ah,N,om,hM.symm⟩ ?_ ?_;.exact bU 3 (by simp[go_sem,zB]) rfl (by simp[rB,zB,bS,cV,cR,bJ.bQ]) dC (zD sg rfl)
 rintro x⟨hx,n,hn,hinv⟩;have ay:=hx.cG.at_;have ae:=DI L hL x.2 hx.cG pV dC;have ao:=oi L hL x.2 hx.cG;have ad:=hx.cp;by_cases q:eL L x.2 pV=[]
 .have av:M=(x.1,dV x.2):=by cases n with |zero=>exact hinv.symm|succ n=>rw[fq,alq q]at hinv;exact hinv.symm
  have aw:IntKind.i64.wrap (x.2.cp-1)=x.2.cp-1:=by rw[ad];exact eo
  refine zA ?_;simp[go_sem,q,rB,aw];exact wS (s:=dV x.2) av
 obtain⟨n,rfl⟩:∃m,n=m+1:=⟨n-1,om⟩;rw[fq,alp q]at hinv;have hi:=FD q;have aq:=hx.cG.next hL hi;have hy:=hP.ok 5 (zV x.2) aq (by show x.2.cp=_;rw[ad,ab]);have ar:=hP.prod (zV x.2) aq (by show x.2.cp=_;rw[ad,ab]);generalize rec 5 (zV x.2)=y at hy ar hinv;have ax:=hy.up;rw[ph]at ax;have hz:PI L s1 (iG (cK L x.2).place (eL L x.2 pV) [x.1,y.1] y.2):=v7 _ _ hy.cG (by rw[hy.cp];exact ad) (by have:=hx.up;omega) (λhe=>(hx.err (hy.err he).1).1) sM (λe he=>by
  simp only[Af,Bs,alG]at he;rcases he with rfl|rfl;.exact hx.wide
  .exact hy.wide);have ai:=nj L y.2 (cK L x.2).place (eL L x.2 pV) [x.1,y.1] sM (λe he=>by
  simp only[Af,Bs,alG]at he;rcases he with rfl|rfl;.exact hx.wide
  .exact hy.wide) (λhe=>by have h1:=(hy.err he).2;have h2:=(hx.err (hy.err he).1).2;simp only[jY];omega);have au:(iG (cK L x.2).place (eL L x.2 pV) [x.1,y.1] y.2).2.at_=y.2.at_:=FC _ _ _ _;generalize iG (cK L x.2).place (eL L x.2 pV) [x.1,y.1] y.2=z at hz ai hinv au;have aj:=DI L hL z.2 hz.cG pV dC;have az:=hz.cG.at_;have hl:=hL.len;have ei:IntKind.i64.wrap ((x.2.at_:Int)+1)=((x.2.at_+1:Nat):Int):=by rw[bX om om];omega
 have q':(eL L x.2 pV).isEmpty=false:=sU q;refine zA ?_;simp[go_sem,q'];refine pR ao ?_;simp[go_sem,rB,ei];simp only[Ag,Bq,bJ.bQ]at ai;refine wP [(3,1),(5,3),(7,3)] 1 3 sM kR kR ?_;simp[go_sem];refine tu ar cB gj ?_;simp[go_sem,bJ.bQ];refine tu ai cB (wT ⟨zC rfl,zC rfl,zK,tV⟩) ?_;simp[go_sem,bJ.bQ];refine pR aj ?_;simp[go_sem];refine zH z ⟨om,⟨hz,n,om,hinv⟩,?_⟩;exact bU 3 (by simp[go_sem,rB,zB,bJ.bQ]) rfl (by simp[zB,bS,cV,cR,bJ.bQ]) dC (zD sg rfl)
theorem wA4(L:List bR)(hL:fk L)(rec:Nat->RS->PR)(s:RS)(hs:dI L s)(h2:s.cp<=200)(ak:s.cp+1<=200->PW L rec (s.cp+1)):bN prog 461 [.ptr 0 0] [rB L s] (RR L (kB L (k5 L rec 5) s)):=by
 have hr:=Fy L hL s hs om;have aa:=wa hs h2;have ab:=rX (L:=L) s;have al:=v8 (L:=L) (s:=s);have ho:=hs.cp;have hM:kB L (k5 L rec 5) s=if(yX L s).err=0then((fq L pW (rec 6) L.length (rec 6 (yX L s))).1,dV (fq L pW (rec 6) L.length (rec 6 (yX L s))).2)else(dw,dV (yX L s)):=rfl;generalize kB L (k5 L rec 5) s=M at hM⊢;generalize yX L s=s1 at hr aa ab al hM;have eo:=FH (o:=s1.cp) om om;refine iV 1 func461 ntmps461 results461 λc hc hb=>?_;by_cases q1:s1.err=0;rotate_left;.have af:(s1.err==0)=false:=sU q1;rw[alp q1]at hM;rw[af]at hr;refine zA ?_;simp[go_sem];refine pR hr ?_;simp[go_sem,rB,eo];exact DJ (e:=dw) (s:=dV s1) hM
 have af:(s1.err==0)=true:=sU q1;rw[alq q1]at hM;rw[af]at hr;have hP:=ak (al q1).2;have ah:=hP.ok 6 s1 aa ab;have an:=hP.unary s1 aa ab;generalize rec 6 s1=x0 at ah an hM;have ae:=DI L hL x0.2 ah.cG pW dC;obtain⟨N,hN⟩:=eX L.length;rw[hN]at hM;refine zA ?_;simp[go_sem];refine pR hr ?_;simp[go_sem];refine kC an cB gj ?_;simp[go_sem];refine pR ae ?_;simp[go_sem];refine zG (S:=PR) [0,2,3,4] (λx=>[.ptr 0 0,.ptr 1 0,.ptr 2 0,.str (eL L x.2 pW)]) (λx=>[rB L x.2,zB,.box x.1.row]) (λx=>N-x.2.at_) (λx=>PI L s1 x/\∃n,N<=n+x.2.at_/\((fq L pW (rec 6) n x).1,dV (fq L pW (rec 6) n x).2)=M) hc hb x0 ⟨ah,N,om,hM.symm⟩ ?_ ?_;.exact bU 3 (by simp[go_sem,zB]) rfl (by simp[rB,zB,bS,cV,cR,bJ.bQ]) dC (zD sg rfl)
 rintro x⟨hx,n,hn,hinv⟩;have ay:=hx.cG.at_;have ae:=DI L hL x.2 hx.cG pW dC;have ao:=oi L hL x.2 hx.cG;have ad:=hx.cp;by_cases q:eL L x.2 pW=[]
 .have av:M=(x.1,dV x.2):=by cases n with|zero=>exact hinv.symm|succ n=>rw[fq,alq q]at hinv;exact hinv.symm
  have aw:IntKind.i64.wrap (x.2.cp-1)=x.2.cp-1:=by rw[ad];exact eo
  refine zA ?_;simp[go_sem,q,rB,aw];exact wS (s:=dV x.2) av
 obtain⟨n,rfl⟩:∃m,n=m+1:=⟨n-1,om⟩;rw[fq,alp q]at hinv;have hi:=FD q;have aq:=hx.cG.next hL hi;have hy:=hP.ok 6 (zV x.2) aq (by show x.2.cp=_;rw[ad,ab]);have ar:=hP.unary (zV x.2) aq (by show x.2.cp=_;rw[ad,ab]);generalize rec 6 (zV x.2)=y at hy ar hinv;have ax:=hy.up;rw[ph]at ax;have hz:PI L s1 (iG (cK L x.2).place (eL L x.2 pW) [x.1,y.1] y.2):=v7 _ _ hy.cG (by rw[hy.cp];exact ad) (by have:=hx.up;omega) (λhe=>(hx.err (hy.err he).1).1) sM (λe he=>by
  simp only[Af,Bs,alG]at he;rcases he with rfl|rfl;.exact hx.wide
  .exact hy.wide);have ai:=nj L y.2 (cK L x.2).place (eL L x.2 pW) [x.1,y.1] sM (λe he=>by
  simp only[Af,Bs,alG]at he;rcases he with rfl|rfl;.exact hx.wide
  .exact hy.wide) (λhe=>by have h1:=(hy.err he).2;have h2:=(hx.err (hy.err he).1).2;simp only[jY];omega);have au:(iG (cK L x.2).place (eL L x.2 pW) [x.1,y.1] y.2).2.at_=y.2.at_:=FC _ _ _ _;generalize iG (cK L x.2).place (eL L x.2 pW) [x.1,y.1] y.2=z at hz ai hinv au;have aj:=DI L hL z.2 hz.cG pW dC;have az:=hz.cG.at_;have hl:=hL.len;have ei:IntKind.i64.wrap ((x.2.at_:Int)+1)=((x.2.at_+1:Nat):Int):=by rw[bX om om];omega
 have q':(eL L x.2 pW).isEmpty=false:=sU q;refine zA ?_;simp[go_sem,q'];refine pR ao ?_;simp[go_sem,rB,ei];simp only[Ag,Bq,bJ.bQ]at ai;refine wP [(3,1),(5,3),(7,3)] 1 3 sM kR kR ?_;simp[go_sem];refine tu ar cB gj ?_;simp[go_sem,bJ.bQ];refine tu ai cB (wT ⟨zC rfl,zC rfl,zK,tV⟩) ?_;simp[go_sem,bJ.bQ];refine pR aj ?_;simp[go_sem];refine zH z ⟨om,⟨hz,n,om,hinv⟩,?_⟩;exact bU 3 (by simp[go_sem,rB,zB,bJ.bQ]) rfl (by simp[zB,bS,cV,cR,bJ.bQ]) dC (zD sg rfl)
theorem Uj(L:List bR)(rec:Nat->RS->PR)(o:Int)(hP:PW L rec o)(s:RS)(hs:dI L s)(ho:s.cp=o):bN prog 368 [.ptr 0 0,.int .i64 0] [rB L s] (RR L (rec 1 s)):=by have aa:=hP.chain 1 (A7 _) s hs ho;generalize rec 1 s=x at aa⊢;refine iW 1 func368 ntmps368 results368 λc hc hb=>zM ?_;simp[go_sem];refine kC aa cB (wT ⟨zC rfl,tV⟩) ?_;simp[go_sem,bJ.bQ];exact wS rfl
theorem Uk(L:List bR)(rec:Nat->RS->PR)(o:Int)(hP:PW L rec o)(s:RS)(hs:dI L s)(ho:s.cp=o):bN prog 368 [.ptr 0 0,.int .i64 1] [rB L s] (RR L (rec 2 s)):=by have aa:=hP.not s hs ho;generalize rec 2 s=x at aa⊢;refine iW 1 func368 ntmps368 results368 λc hc hb=>zM ?_;simp[go_sem];refine kC aa cB gj ?_;simp[go_sem,bJ.bQ];exact wS rfl
theorem Ul(L:List bR)(s:RS)(w:alW)(hw:w≠[]):(eL L s [w]=[]↔dH L w s=false)/\(dH L w s=true->eL L s [w]=w):=by
 unfold eL;cases dH L w s;.simp[eL]
 .simp[hw]
theorem xO0(L:List bR)(hL:fk L)(rec:Nat->RS->PR)(s:RS)(hs:dI L s)(h2:s.cp<=200)(ak:s.cp+1<=200->PW L rec (s.cp+1)):bN prog 300 [.ptr 0 0,.int .i64 0] [rB L s] (RR L (kB L (k5 L rec 0) s)):=by
 have hr:=Fy L hL s hs om;have aa:=wa hs h2;have ab:=rX (L:=L) s;have al:=v8 (L:=L) (s:=s);have ho:=hs.cp;have hM:kB L (k5 L rec 0) s=if(yX L s).err=0then((fq L [rW] (rec 1) L.length (rec 1 (yX L s))).1,dV (fq L [rW] (rec 1) L.length (rec 1 (yX L s))).2)else(dw,dV (yX L s)):=rfl;generalize kB L (k5 L rec 0) s=M at hM⊢;generalize yX L s=s1 at hr aa ab al hM;have eo:=FH (o:=s1.cp) om om;have ad:=T7;refine iV 1 func300 ntmps300 results300 λc hc hb=>?_;by_cases q1:s1.err=0;rotate_left;.have ai:(s1.err==0)=false:=sU q1;rw[alp q1]at hM;rw[ai]at hr;refine zA ?_;simp[go_sem];refine pR hr ?_;simp[go_sem,rB,eo];exact DJ (e:=dw) (s:=dV s1) hM
 have ai:(s1.err==0)=true:=sU q1;rw[alq q1]at hM;rw[ai]at hr;have hP:=ak (al q1).2;have an:=hP.ok 1 s1 aa ab;have ao:=Uj L rec _ hP s1 aa ab;generalize rec 1 s1=x0 at an ao hM;obtain⟨N,hN⟩:=eX L.length;rw[hN]at hM;refine zA ?_;simp[go_sem];refine pR hr ?_;simp[go_sem];refine kC ao cB (wT ⟨zC rfl,tV⟩) ?_;simp[go_sem];refine zG (S:=PR) [0,1,4,5] (λx=>[.ptr 0 0,.int .i64 0,.ptr 1 0,.ptr 2 0]) (λx=>[rB L x.2,zB,.box x.1.row]) (λx=>N-x.2.at_) (λx=>PI L s1 x/\∃n,N<=n+x.2.at_/\((fq L [rW] (rec 1) n x).1,dV (fq L [rW] (rec 1) n x).2)=M) hc hb x0 ⟨an,N,om,hM.symm⟩ ?_ ?_;.exact bU 3 (by simp[go_sem,zB]) rfl (by simp[rB,zB,bS,cV,cR,bJ.bQ]) dC (zD sg rfl)
 rintro x⟨hx,n,hn,hinv⟩;have a7:=hx.cG.at_;have ae:=jM L hL x.2 hx.cG rW;have aq:=oi L hL x.2 hx.cG;have af:=hx.cp;obtain⟨ax,ay⟩:=Ul L x.2 rW dC;by_cases q:dH L rW x.2=false
 .rw[q]at ae;have az:M=(x.1,dV x.2):=by cases n with |zero=>exact hinv.symm|succ n=>rw[fq,alq (ax.2 q)]at hinv;exact hinv.symm
  have a1:IntKind.i64.wrap (x.2.cp-1)=x.2.cp-1:=by rw[af];exact eo
  refine zA ?_;simp[go_sem];refine pC ad ?_;simp[go_sem];refine pR ae ?_;simp[go_sem,rB,a1];exact wS (s:=dV x.2) az
 have q:dH L rW x.2:=sU q;rw[q]at ae;obtain⟨n,rfl⟩:∃m,n=m+1:=⟨n-1,om⟩;have ah:=ay q;rw[fq,alp (by rw[ah];decide),ah]at hinv;have ar:=hx.cG.next hL q;have hy:=hP.ok 1 (zV x.2) ar (by show x.2.cp=_;rw[af,ab]);have au:=Uj L rec _ hP (zV x.2) ar (by show x.2.cp=_;rw[af,ab]);generalize rec 1 (zV x.2)=y at hy au hinv;have a6:=hy.up;rw[ph]at a6;have av:∀e∈[x.1,y.1],fP e:=λe he=>by
  simp only[Af,Bs,alG]at he;rcases he with rfl|rfl;.exact hx.wide
  .exact hy.wide
 have hz:PI L s1 (iG (cK L x.2).place rW [x.1,y.1] y.2):=v7 _ _ hy.cG (by rw[hy.cp];exact af) (by have:=hx.up;omega) (λhe=>(hx.err (hy.err he).1).1) sM av;have aj:=nj L y.2 (cK L x.2).place rW [x.1,y.1] sM av (λhe=>by have h1:=(hy.err he).2;have h2:=(hx.err (hy.err he).1).2;simp only[jY];omega);have aw:(iG (cK L x.2).place rW [x.1,y.1] y.2).2.at_=y.2.at_:=FC _ _ _ _;generalize iG (cK L x.2).place rW [x.1,y.1] y.2=z at hz aj hinv aw;have a8:=hz.cG.at_;have hl:=hL.len;have ei:IntKind.i64.wrap ((x.2.at_:Int)+1)=((x.2.at_+1:Nat):Int):=by rw[bX om om];omega
 simp only[Ag,Bq,bJ.bQ]at aj;refine zA ?_;simp[go_sem];refine pC ad ?_;simp[go_sem];refine pR ae ?_;simp[go_sem];refine pR aq ?_;simp[go_sem,rB,ei];refine wP [(2,0),(11,3),(13,3)] 1 3 sM kR kR ?_;simp[go_sem];refine pD ad ?_;simp[go_sem];refine tu au cB (wT ⟨zC rfl,tV⟩) ?_;simp[go_sem,bJ.bQ];refine tu aj cB (wT ⟨zC rfl,zC rfl,zK,tV⟩) ?_;simp[go_sem,bJ.bQ];refine zH z ⟨om,⟨hz,n,om,hinv⟩,?_⟩;exact bU 3 (by simp[go_sem,rB,zB,bJ.bQ]) rfl (by simp[zB,bS,cV,cR,bJ.bQ]) dC (zD sg rfl)
theorem xO1(L:List bR)(hL:fk L)(rec:Nat->RS->PR)(s:RS)(hs:dI L s)(h2:s.cp<=200)(ak:s.cp+1<=200->PW L rec (s.cp+1)):bN prog 300 [.ptr 0 0,.int .i64 1] [rB L s] (RR L (kB L (k5 L rec 1) s)):=by
 have hr:=Fy L hL s hs om;have aa:=wa hs h2;have ab:=rX (L:=L) s;have al:=v8 (L:=L) (s:=s);have ho:=hs.cp;have hM:kB L (k5 L rec 1) s=if(yX L s).err=0then((fq L [kh] (rec 2) L.length (rec 2 (yX L s))).1,dV (fq L [kh] (rec 2) L.length (rec 2 (yX L s))).2)else(dw,dV (yX L s)):=rfl;generalize kB L (k5 L rec 1) s=M at hM⊢;generalize yX L s=s1 at hr aa ab al hM;have eo:=FH (o:=s1.cp) om om;have ad:=T7;refine iV 1 func300 ntmps300 results300 λc hc hb=>?_;by_cases q1:s1.err=0;rotate_left;.have ai:(s1.err==0)=false:=sU q1;rw[alp q1]at hM;rw[ai]at hr;refine zA ?_;simp[go_sem];refine pR hr ?_;simp[go_sem,rB,eo];exact DJ (e:=dw) (s:=dV s1) hM
 have ai:(s1.err==0)=true:=sU q1;rw[alq q1]at hM;rw[ai]at hr;have hP:=ak (al q1).2;have an:=hP.ok 2 s1 aa ab;have ao:=Uk L rec _ hP s1 aa ab;generalize rec 2 s1=x0 at an ao hM;obtain⟨N,hN⟩:=eX L.length;rw[hN]at hM;refine zA ?_;simp[go_sem];refine pR hr ?_;simp[go_sem];refine kC ao cB (wT ⟨zC rfl,tV⟩) ?_;simp[go_sem];refine zG (S:=PR) [0,1,4,5] (λx=>[.ptr 0 0,.int .i64 1,.ptr 1 0,.ptr 2 0]) (λx=>[rB L x.2,zB,.box x.1.row]) (λx=>N-x.2.at_) (λx=>PI L s1 x/\∃n,N<=n+x.2.at_/\((fq L [kh] (rec 2) n x).1,dV (fq L [kh] (rec 2) n x).2)=M) hc hb x0 ⟨an,N,om,hM.symm⟩ ?_ ?_;.exact bU 3 (by simp[go_sem,zB]) rfl (by simp[rB,zB,bS,cV,cR,bJ.bQ]) dC (zD sg rfl)
 rintro x⟨hx,n,hn,hinv⟩;have a7:=hx.cG.at_;have ae:=jM L hL x.2 hx.cG kh;have aq:=oi L hL x.2 hx.cG;have af:=hx.cp;obtain⟨ax,ay⟩:=Ul L x.2 kh dC;by_cases q:dH L kh x.2=false
 .rw[q]at ae;have az:M=(x.1,dV x.2):=by cases n with|zero=>exact hinv.symm|succ n=>rw[fq,alq (ax.2 q)]at hinv;exact hinv.symm
  have a1:IntKind.i64.wrap (x.2.cp-1)=x.2.cp-1:=by rw[af];exact eo
  refine zA ?_;simp[go_sem];refine pC ad ?_;simp[go_sem];refine pR ae ?_;simp[go_sem,rB,a1];exact wS (s:=dV x.2) az
 have q:dH L kh x.2:=sU q;rw[q]at ae;obtain⟨n,rfl⟩:∃m,n=m+1:=⟨n-1,om⟩;have ah:=ay q;rw[fq,alp (by rw[ah];decide),ah]at hinv;have ar:=hx.cG.next hL q;have hy:=hP.ok 2 (zV x.2) ar (by show x.2.cp=_;rw[af,ab]);have au:=Uk L rec _ hP (zV x.2) ar (by show x.2.cp=_;rw[af,ab]);generalize rec 2 (zV x.2)=y at hy au hinv;have a6:=hy.up;rw[ph]at a6;have av:∀e∈[x.1,y.1],fP e:=λe he=>by
  simp only[Af,Bs,alG]at he;rcases he with rfl|rfl;.exact hx.wide
  .exact hy.wide
 have hz:PI L s1 (iG (cK L x.2).place kh [x.1,y.1] y.2):=v7 _ _ hy.cG (by rw[hy.cp];exact af) (by have:=hx.up;omega) (λhe=>(hx.err (hy.err he).1).1) sM av;have aj:=nj L y.2 (cK L x.2).place kh [x.1,y.1] sM av (λhe=>by have h1:=(hy.err he).2;have h2:=(hx.err (hy.err he).1).2;simp only[jY];omega);have aw:(iG (cK L x.2).place kh [x.1,y.1] y.2).2.at_=y.2.at_:=FC _ _ _ _;generalize iG (cK L x.2).place kh [x.1,y.1] y.2=z at hz aj hinv aw;have a8:=hz.cG.at_;have hl:=hL.len;have ei:IntKind.i64.wrap ((x.2.at_:Int)+1)=((x.2.at_+1:Nat):Int):=by rw[bX om om];omega
 simp only[Ag,Bq,bJ.bQ]at aj;refine zA ?_;simp[go_sem];refine pC ad ?_;simp[go_sem];refine pR ae ?_;simp[go_sem];refine pR aq ?_;simp[go_sem,rB,ei];refine wP [(2,0),(11,3),(13,3)] 1 3 sM kR kR ?_;simp[go_sem];refine pD ad ?_;simp[go_sem];refine tu au cB (wT ⟨zC rfl,tV⟩) ?_;simp[go_sem,bJ.bQ];refine tu aj cB (wT ⟨zC rfl,zC rfl,zK,tV⟩) ?_;simp[go_sem,bJ.bQ];refine zH z ⟨om,⟨hz,n,om,hinv⟩,?_⟩;exact bU 3 (by simp[go_sem,rB,zB,bJ.bQ]) rfl (by simp[zB,bS,cV,cR,bJ.bQ]) dC (zD sg rfl)
theorem Mb{x:bJ}(h:fP x):∀e∈[x],fP e:=λe he=>by simp only[Af,Bs,alG]at he;subst he;exact h
theorem wC6{x y:bJ}(h:fP x)(h2:fP y):∀e∈[x,y],fP e:=λe he=>by
 simp only[Af,Bs,alG]at he;rcases he with rfl|rfl;.exact h
 .exact h2
theorem wF5(L:List bR)(hL:fk L)(rec:Nat->RS->PR)(s:RS)(hs:dI L s)(h2:s.cp<=200)(ak:s.cp+1<=200->PW L rec (s.cp+1)):bN prog 419 [.ptr 0 0] [rB L s] (RR L (kB L (k5 L rec 2) s)):=by
 have hr:=Fy L hL s hs om;have aa:=wa hs h2;have ad:=rX (L:=L) s;have al:=v8 (L:=L) (s:=s);have ho:=hs.cp;have hM:kB L (k5 L rec 2) s=if(yX L s).err=0then((oo L (rec 2) (rec 3) (yX L s)).1,dV (oo L (rec 2) (rec 3) (yX L s)).2)else(dw,dV (yX L s)):=rfl;generalize kB L (k5 L rec 2) s=M at hM⊢;generalize yX L s=s1 at hr aa ad al hM;have eo:=FH (o:=s1.cp) om om;refine iW 1 func419 ntmps419 results419 λc hc hb=>zM ?_;by_cases q1:s1.err=0;rotate_left;.have ah:(s1.err==0)=false:=sU q1;rw[alp q1]at hM;rw[ah]at hr;simp[go_sem];refine pR hr ?_;simp[go_sem,rB,eo];exact DJ (e:=dw) (s:=dV s1) hM
 have ah:(s1.err==0)=true:=sU q1;rw[alq q1]at hM;rw[ah]at hr;have hP:=ak (al q1).2;have af:=oi L hL s1 aa;have ab:=Fv L hL s1 aa kN;unfold oo at hM;unfold ni at ab;by_cases q:dH L kN s1=true
 .rw[alq q]at hM;rw[alq q,q]at ab;have an:=aa.next hL q;have hy:=hP.ok 2 (zV s1) an ad;have ae:=hP.not (zV s1) an ad;generalize rec 2 (zV s1)=y at hy ae hM;have ai:=nj L y.2 (cK L s1).place kN [y.1] sM (Mb hy.wide) (λhe=>by have h1:=(hy.err he).2;simp only[jY];omega);have ao:(iG (cK L s1).place kN [y.1] y.2).2.cp=s1.cp:=by show(oj _ _ _ y.2).cp=_;rw[L8,hy.cp];rfl
  generalize iG (cK L s1).place kN [y.1] y.2=z at ai hM ao;have aj:IntKind.i64.wrap (z.2.cp-1)=z.2.cp-1:=by rw[ao];exact eo
  simp only[Ag,Bq,bJ.bQ]at ai;simp[go_sem];refine pR hr ?_;simp[go_sem];refine pR af ?_;simp[go_sem];refine pR ab ?_;simp[go_sem];refine kC ae cB gj ?_;simp[go_sem,bJ.bQ];refine kC ai cB (wT ⟨zC rfl,zC rfl,zK,tV⟩) ?_;simp[go_sem,rB,bJ.bQ,aj];exact wS (s:=dV z.2) hM
 .have q:dH L kN s1=false:=sU q;rw[alp (by rw[q];decide)]at hM;rw[alp (by rw[q];decide),q]at ab;have hy:=hP.ok 3 s1 aa ad;have ae:=hP.cmp s1 aa ad;generalize rec 3 s1=z at hy ae hM;have aj:IntKind.i64.wrap (z.2.cp-1)=z.2.cp-1:=by rw[hy.cp];exact eo
  simp[go_sem];refine pR hr ?_;simp[go_sem];refine pR af ?_;simp[go_sem];refine pR ab ?_;simp[go_sem];refine kC ae cB gj ?_;simp[go_sem,rB,bJ.bQ,aj];exact wS (s:=dV z.2) hM
theorem xM6(L:List bR)(s:RS)(w:alW)(ws:List alW)(h:dH L w s):eL L s (w::ws)=w:=by unfold eL;rw[alq h]
theorem xA8(L:List bR)(s:RS)(w:alW)(ws:List alW)(h:dH L w s=false):eL L s (w::ws)=eL L s ws:=by unfold eL;rw[alp (by rw[h];decide)];cases ws<;>rfl
theorem xJ1: ∀w∈gz,w≠ []:=dC
theorem wE2(L:List bR)(hL:fk L)(rec:Nat->RS->PR)(s:RS)(hs:dI L s)(h2:s.cp<=200)(ay:s.cp+1<=200->PW L rec (s.cp+1)):bN prog 444 [.ptr 0 0] [rB L s] (RR L (kB L (k5 L rec 3) s)):=by
 have hr:=Fy L hL s hs om;have ai:=wa hs h2;have aj:=rX (L:=L) s;have az:=v8 (L:=L) (s:=s);have ho:=hs.cp;have hM:kB L (k5 L rec 3) s=if(yX L s).err=0then((oq L (rec 4) (rec 4 (yX L s))).1,dV (oq L (rec 4) (rec 4 (yX L s))).2)else(dw,dV (yX L s)):=rfl;generalize kB L (k5 L rec 3) s=M at hM⊢;generalize yX L s=s1 at hr ai aj az hM;have eo:=FH (o:=s1.cp) om om;refine iV 1 func444 ntmps444 results444 λc hc hb=>?_;by_cases q1:s1.err=0;rotate_left;.have aw:(s1.err==0)=false:=sU q1;rw[alp q1]at hM;rw[aw]at hr;refine zA ?_;simp[go_sem];refine pR hr ?_;simp[go_sem,rB,eo];exact DJ (e:=dw) (s:=dV s1) hM
 have aw:(s1.err==0)=true:=sU q1;rw[alq q1]at hM;rw[aw]at hr;have hP:=ay (az q1).2;have hx:=hP.ok 4 s1 ai aj;have au:=hP.sum s1 ai aj;generalize rec 4 s1=x at hx au hM;have ak:=oi L hL x.2 hx.cG;have aa:=Fv L hL x.2 hx.cG L5;have af:=hx.cp;unfold oq at hM;unfold ni at aa;by_cases q:dH L L5 x.2=true
 .rw[alq q]at hM;rw[alq q,q]at aa;have ah:=hx.cG.next hL q;have ab:=Fv L hL (zV x.2) ah kN;unfold ni at ab;by_cases q2:dH L kN (zV x.2)=true
  .rw[alq q2]at hM;rw[alq q2,q2]at ab;have a8:=ah.next hL q2;have al:=ma L hL _ a8 pU;have an:=FF (L:=L) pU (zV (zV x.2));have ao:=za (L:=L) (w:=pU) (s:=zV (zV x.2));generalize yJ L pU (zV (zV x.2))=u at al an ao hM;have ax:u.cp=s1.cp:=by rw[an];exact af
   have ae:IntKind.i64.wrap (u.cp-1)=u.cp-1:=by rw[ax];exact eo
   have ad:=nj L (dV u) (cK L x.2).place L7 [x.1] sM (Mb hx.wide) (λhe=>by have h1:=(hx.err (ao he).1).2;simp only[jY];omega);have aq:M=iG (cK L x.2).place L7 [x.1] (dV u):=by rw[hM];unfold iG;rw[Ua]
   clear hM;generalize iG (cK L x.2).place L7 [x.1] (dV u)=z at ad aq;simp only[Ag,Bq,bJ.bQ]at ad;refine zA ?_;simp[go_sem];refine pR hr ?_;simp[go_sem];refine kC au cB gj ?_;simp[go_sem,bJ.bQ];refine pR ak ?_;simp[go_sem];refine pR aa ?_;simp[go_sem];refine pR ab ?_;simp[go_sem];refine pR al ?_;simp[go_sem,rB,ae];refine kC (s:=dV u) ad cB (wT ⟨zC rfl,zC rfl,zK,tV⟩) ?_;simp[go_sem,bJ.bQ];exact wS aq
  .have q2:dH L kN (zV x.2)=false:=sU q2;rw[alp (by rw[q2];decide)]at hM;rw[alp (by rw[q2];decide),q2]at ab;have al:=ma L hL _ ah pU;have an:=FF (L:=L) pU (zV x.2);have ao:=za (L:=L) (w:=pU) (s:=zV x.2);generalize yJ L pU (zV x.2)=u at al an ao hM;have ax:u.cp=s1.cp:=by rw[an];exact af
   have ae:IntKind.i64.wrap (u.cp-1)=u.cp-1:=by rw[ax];exact eo
   have ad:=nj L (dV u) (cK L x.2).place L6 [x.1] sM (Mb hx.wide) (λhe=>by have h1:=(hx.err (ao he).1).2;simp only[jY];omega);have aq:M=iG (cK L x.2).place L6 [x.1] (dV u):=by rw[hM];unfold iG;rw[Ua]
   clear hM;generalize iG (cK L x.2).place L6 [x.1] (dV u)=z at ad aq;simp only[Ag,Bq,bJ.bQ]at ad;refine zA ?_;simp[go_sem];refine pR hr ?_;simp[go_sem];refine kC au cB gj ?_;simp[go_sem,bJ.bQ];refine pR ak ?_;simp[go_sem];refine pR aa ?_;simp[go_sem];refine pR ab ?_;simp[go_sem];refine pR al ?_;simp[go_sem,rB,ae];refine kC (s:=dV u) ad cB (wT ⟨zC rfl,zC rfl,zK,tV⟩) ?_;simp[go_sem,bJ.bQ];exact wS aq
 have q:dH L L5 x.2=false:=sU q;rw[alp (by rw[q];decide)]at hM;rw[alp (by rw[q];decide),q]at aa;refine zA ?_;simp[go_sem];refine pR hr ?_;simp[go_sem];refine kC au cB gj ?_;simp[go_sem,bJ.bQ];refine pR ak ?_;simp[go_sem];refine pR aa ?_;simp[go_sem];refine zG (S:=Nat) [0,2,3,4,5,7] (λi=>[.ptr 0 0,.ptr 1 0,.ptr 2 0,.int .i64 (cK L x.2).place,.sl .ro (gz.map λw=>[V.str w]),.int .i64 (i:Int)]) (λ_=>[rB L x.2,zB,.box x.1.row]) (λi=>6-i) (λi=>i<=6/\eL L x.2 (gz.drop i)=eL L x.2 gz) hc hb 0 ⟨A5 _,rfl⟩ ?_ ?_;.exact bU 3 (by simp[go_sem,zB,bJ.bQ]) rfl (by simp[rB,zB,bS,cV,cR,bJ.bQ]) dC ⟨xR (by rfl),xR (by rfl),xR (by rfl),zC rfl,zK,zC rfl,tV⟩
 rintro i⟨hi,hinv⟩;by_cases qi:i<6;rotate_left
 .obtain rfl:i=6:=om;have ha:eL L x.2 gz=[]:=by rw[<-hinv];rfl
  rw[alq ha]at hM;have ae:IntKind.i64.wrap (x.2.cp-1)=x.2.cp-1:=by rw[af];exact eo
  refine zA ?_;simp[go_sem,gz,rB,ae,bJ.bQ];exact wS (s:=dV x.2) hM
 have ar:i<gz.length:=qi;obtain⟨w,hw⟩:=eX (gz[i]);have aA:w∈gz:=hw▸A9 ar;have aB:=xJ1 w aA;rw[A4 ar,hw]at hinv;have aa:=Fv L hL x.2 hx.cG w;unfold ni at aa;have a1:decide ((i:Int)<6)=true:=als om;have ei:=zO qi dC;have av:(gz.length:Int)=6:=rfl;by_cases qw:dH L w x.2=true;rotate_left;.have qw:dH L w x.2=false:=sU qw;rw[xA8 L x.2 w _ qw]at hinv;rw[alp (by rw[qw];decide),qw]at aa;refine zA ?_;simp[go_sem,av,a1,ar,hw];refine zJ om ?_;simp[go_sem];refine pR aa ?_;simp[go_sem,ei];refine zH (i+1) ⟨om,⟨om,hinv⟩,?_⟩;exact bU 3 (by simp[go_sem,rB,zB,bJ.bQ]) rfl (by simp[rB,zB,bS,cV,cR,bJ.bQ]) dC (zD sg rfl)
 rw[xM6 L x.2 w _ qw]at hinv;rw[alp (by rw[<-hinv];exact aB),<-hinv]at hM;rw[alq qw,qw]at aa;have ah:=hx.cG.next hL qw;have hy:=hP.ok 4 (zV x.2) ah (by show x.2.cp=_;rw[af,aj]);have a6:=hP.sum (zV x.2) ah (by show x.2.cp=_;rw[af,aj]);generalize rec 4 (zV x.2)=y at hy a6 hM;have ad:=nj L y.2 (cK L x.2).place w [x.1,y.1] sM (wC6 hx.wide hy.wide) (λhe=>by have h1:=(hy.err he).2;have h2:=(hx.err (hy.err he).1).2;simp only[jY];omega);have a7:(iG (cK L x.2).place w [x.1,y.1] y.2).2.cp=s1.cp:=by show(oj _ _ _ y.2).cp=_;rw[L8,hy.cp];exact af
 generalize iG (cK L x.2).place w [x.1,y.1] y.2=z at ad hM a7;have ae:IntKind.i64.wrap (z.2.cp-1)=z.2.cp-1:=by rw[a7];exact eo
 simp only[Ag,Bq,bJ.bQ]at ad;refine zA ?_;simp[go_sem,av,a1,ar,hw];refine zJ om ?_;simp[go_sem];refine pR aa ?_;simp[go_sem];refine wP [(8,3),(10,3)] 1 3 sM kR kR ?_;simp[go_sem,ar,hw];refine tu a6 cB gj ?_;simp[go_sem,bJ.bQ];refine tu ad cB (wT ⟨zC rfl,zC rfl,zK,tV⟩) ?_;simp[go_sem,rB,bJ.bQ,ae];exact wS (s:=dV z.2) hM
theorem Ji(v:bK):Pure prog 464 [.agg v.row] (.agg (kM v).row):=by refine iW 0 func464 ntmps464 results464 λc hc hb=>zM ?_;simp[go_sem];exact zQ (r:=.agg [.int .i64 1,.str [],.int .i64 v.kind,.int .i64 v.n,.str v.s,.sl .ro []]) (xM ⟨zF rfl,zF rfl,zF rfl,zF rfl,zF rfl,zY,tV⟩) ⟨rfl,rfl⟩
theorem xY(L:List bR)(hL:fk L)(s:RS)(hs:dI L s)(w:alW)(h:dH L w s):bN prog 76 [.ptr 0 0,.str w] [rB L s] (λr I=>r=.bool true/\I=[rB L (zV s)]):=by have:=Fv L hL s hs w;unfold ni at this;rw[alq h,h]at this;exact this
theorem jZ(L:List bR)(hL:fk L)(s:RS)(hs:dI L s)(w:alW)(h:dH L w s=false):bN prog 76 [.ptr 0 0,.str w] [rB L s] (λr I=>r=.bool false/\I=[rB L s]):=by have:=Fv L hL s hs w;unfold ni at this;rw[alp (by rw[h];decide),h]at this;exact this
theorem ww0(L:List bR)(hL:fk L)(rec:Nat->RS->PR)(s:RS)(hs:dI L s)(hP:PW L rec s.cp)(hex:∀s',dI L s'->s'.cp=s.cp->bN prog 227 [.ptr 0 0] [rB L s'] (RR L (rec 0 s'))):bN prog 463 [.ptr 0 0] [rB L s] (RR L (uH L (rec 6) (rec 0) s)):=by
 generalize hM:uH L (rec 6) (rec 0) s=M;unfold uH at hM;have ab:=oi L hL s hs;have ao:=hs.at_;have hl:=hL.len;have ei:IntKind.i64.wrap ((s.at_:Int)+1)=((s.at_+1:Nat):Int):=by rw[bX om om];omega
 have ah:=Fw L hL s hs;refine iW 1 func463 ntmps463 results463 λc hc hb=>zM ?_
 by_cases q1:dH L [45] s=true;.rw[alq q1]at hM;have al:=xY L hL s hs _ q1;have ad:=hs.next hL q1;have hy:=hP.ok 6 (zV s) ad rfl;have ae:=hP.unary (zV s) ad rfl;generalize rec 6 (zV s)=y at hy ae hM;have ai:=nj L y.2 (cK L s).place [78,69,71] [y.1] sM (Mb hy.wide) (λhe=>by have h1:=(hy.err he).2;simp only[jY];omega);generalize iG (cK L s).place [78,69,71] [y.1] y.2=z at ai hM;simp only[Ag,Bq,bJ.bQ]at ai;simp[go_sem];refine pR ab ?_;simp[go_sem];refine pR al ?_;simp[go_sem];refine wP [(4,3),(6,3)] 1 3 sM kR kR ?_;simp[go_sem];refine tu ae cB gj ?_;simp[go_sem,bJ.bQ];refine tu ai cB (wT ⟨zC rfl,zC rfl,zK,tV⟩) ?_;simp[go_sem,bJ.bQ];exact wS hM.symm
 have q1:dH L [45] s=false:=sU q1;rw[alp (by rw[q1];decide)]at hM;have af:=jZ L hL s hs _ q1;by_cases q2:dH L [40] s=true;.rw[alq q2]at hM;have aa:=xY L hL s hs _ q2;have ad:=hs.next hL q2;have hy:=hP.ok 0 (zV s) ad rfl;have ae:=hex (zV s) ad rfl;generalize rec 0 (zV s)=y at hy ae hM;have an:=ma L hL y.2 hy.cG [41];generalize yJ L [41] y.2=u at an hM;simp[go_sem];refine pR ab ?_;simp[go_sem];refine pR af ?_;simp[go_sem];refine pR aa ?_;simp[go_sem];refine kC ae cB gj ?_;simp[go_sem,bJ.bQ];refine pR an ?_;simp[go_sem];exact wS hM.symm
 have q2:dH L [40] s=false:=sU q2;rw[alp (by rw[q2];decide)]at hM;have aa:=jZ L hL s hs _ q2;simp[go_sem];refine pR ab ?_;simp[go_sem];refine pR af ?_;simp[go_sem];refine pR aa ?_;simp[go_sem];by_cases q3:dH L [84,82,85,69] s=true;.rw[alq q3]at hM;have hv:=Ji ⟨1,1,[]⟩;simp only[bJ.bQ,bK.row]at hv;refine pR (xY L hL s hs _ q3) ?_;simp[go_sem];refine pC hv ?_;simp[go_sem];exact wS (e:=kM ⟨1,1,[]⟩) (s:=zV s) hM.symm
 have q3:dH L [84,82,85,69] s=false:=sU q3;rw[alp (by rw[q3];decide)]at hM;refine pR (jZ L hL s hs _ q3) ?_;simp[go_sem];by_cases q4:dH L [70,65,76,83,69] s=true;.rw[alq q4]at hM;have hv:=Ji ⟨1,0,[]⟩;simp only[bJ.bQ,bK.row]at hv;refine pR (xY L hL s hs _ q4) ?_;simp[go_sem];refine pC hv ?_;simp[go_sem];exact wS (e:=kM ⟨1,0,[]⟩) (s:=zV s) hM.symm
 have q4:dH L [70,65,76,83,69] s=false:=sU q4;rw[alp (by rw[q4];decide)]at hM;refine pR (jZ L hL s hs _ q4) ?_;simp[go_sem];by_cases q5:dH L pU s=true;.rw[alq q5]at hM;have hv:=Ji ⟨0,0,[]⟩;simp only[bJ.bQ,bK.row]at hv;refine pR (xY L hL s hs _ q5) ?_;simp[go_sem];refine pC hv ?_;simp[go_sem];exact wS (e:=kM ⟨0,0,[]⟩) (s:=zV s) hM.symm
 have q5:dH L pU s=false:=sU q5;rw[alp (by rw[q5];decide)]at hM;refine pR (jZ L hL s hs _ q5) ?_;simp[go_sem];obtain⟨t,ht⟩:=eX (cK L s);rw[ht]at hM;rw[ht];by_cases q6:t.kind=2;.rw[alq q6]at hM;have hv:=Ji ⟨2,t.n,[]⟩;simp only[bJ.bQ,bK.row]at hv;have aj:(t.kind==2)=true:=sU q6;simp[go_sem,aj,rB,ei];refine pC hv ?_;simp[go_sem];exact wS (e:=kM ⟨2,t.n,[]⟩) (s:=zV s) hM.symm
 rw[alp q6]at hM;have aj:(t.kind==2)=false:=sU q6;simp[go_sem,aj];by_cases q7:t.kind=3;.rw[alq q7]at hM;have hv:=Ji ⟨3,0,t.s⟩;simp only[bJ.bQ,bK.row]at hv;have ak:(t.kind==3)=true:=sU q7;simp[go_sem,ak,rB,ei];refine pC hv ?_;simp[go_sem];exact wS (e:=kM ⟨3,0,t.s⟩) (s:=zV s) hM.symm
 rw[alp q7]at hM;have ak:(t.kind==3)=false:=sU q7;simp[go_sem,ak];refine pR ah ?_;simp[go_sem];exact DJ (e:=FA (xH L s).1) (s:=(xH L s).2) hM.symm
theorem wq2(L:List bR)(hL:fk L)(rec:Nat->RS->PR)(s:RS)(hs:dI L s)(h2:s.cp<=200)(af:s.cp+1<=200->PW L rec (s.cp+1))(hex:s.cp+1<=200->∀s',dI L s'->s'.cp=s.cp+1->bN prog 227 [.ptr 0 0] [rB L s'] (RR L (rec 0 s'))):bN prog 462 [.ptr 0 0] [rB L s] (RR L (kB L (k5 L rec 6) s)):=by
 have hr:=Fy L hL s hs om;have aa:=wa hs h2;have ad:=rX (L:=L) s;have ah:=v8 (L:=L) (s:=s);have ho:=hs.cp;have hM:kB L (k5 L rec 6) s=if(yX L s).err=0then((uH L (rec 6) (rec 0) (yX L s)).1,dV (uH L (rec 6) (rec 0) (yX L s)).2)else(dw,dV (yX L s)):=rfl;generalize kB L (k5 L rec 6) s=M at hM⊢;generalize yX L s=s1 at hr aa ad ah hM;have eo:=FH (o:=s1.cp) om om;refine iW 1 func462 ntmps462 results462 λc hc hb=>zM ?_;by_cases q1:s1.err=0;rotate_left;.have ae:(s1.err==0)=false:=sU q1;rw[alp q1]at hM;rw[ae]at hr;simp[go_sem];refine pR hr ?_;simp[go_sem,rB,eo];exact DJ (e:=dw) (s:=dV s1) hM
 have ae:(s1.err==0)=true:=sU q1;rw[alq q1]at hM;rw[ae]at hr;have ab:=(ah q1).2;have hP:PW L rec s1.cp:=by rw[ad];exact af ab
 have cZ:=Uh hL (hP.ok 6) (hP.ok 0) s1 aa rfl;have ai:=ww0 L hL rec s1 aa hP (λs' h1 h2=>hex ab s' h1 (by rw[h2,ad]));generalize uH L (rec 6) (rec 0) s1=z at cZ ai hM;have aj:IntKind.i64.wrap (z.2.cp-1)=z.2.cp-1:=by rw[cZ.cp];exact eo
 simp[go_sem];refine pR hr ?_;simp[go_sem];refine kC ai cB gj ?_;simp[go_sem,rB,bJ.bQ,aj];exact wS (s:=dV z.2) hM
theorem Um(L:List bR)(s:RS)(x:PR)(aa:bN prog 300 [.ptr 0 0,.int .i64 0] [rB L s] (RR L x)):bN prog 227 [.ptr 0 0] [rB L s] (RR L x):=by refine iW 1 func227 ntmps227 results227 λc hc hb=>zM ?_;simp[go_sem];refine kC aa cB (wT ⟨zC rfl,tV⟩) ?_;simp[go_sem,bJ.bQ];exact wS rfl
theorem Un(L:List bR)(hL:fk L):∀(f:Nat)(o:Int),o<=200->201<=(f:Int)+o->PW L (pF L f) o
 |0,o,h,hf=>by omega|f+1,o,h,hf=>by
  have ih:∀s:RS,s.cp=o->s.cp+1<=200->PW L (pF L f) (s.cp+1):=λs hs h1=>Un L hL f (s.cp+1) h1 (by push_cast at hf;omega);have aa:∀s:RS,s.cp=o->s.cp+1<=200->∀s',dI L s'->s'.cp=s.cp+1->bN prog 227 [.ptr 0 0] [rB L s'] (RR L (pF L f 0 s')):=λs hs h1 s' h2 h3=>Um L s' _ ((ih s hs h1).chain 0 (A5 _) s' h2 h3);refine⟨λw s hs ho=>Ma hL (f+1) w s hs om (by push_cast at hf⊢;omega),λk hk s hs ho=>?_,λs hs ho=>?_,λs hs ho=>?_,λs hs ho=>?_,λs hs ho=>?_,λs hs ho=>?_⟩
  .have hk:k=0\/k=1:=om;rcases hk with rfl|rfl;.exact xO0 L hL (pF L f) s hs om (ih s ho)
   .exact xO1 L hL (pF L f) s hs om (ih s ho)
  .exact wF5 L hL (pF L f) s hs om (ih s ho)
  .exact wE2 L hL (pF L f) s hs om (ih s ho)
  .exact wG4 L hL (pF L f) s hs om (ih s ho)
  .exact wA4 L hL (pF L f) s hs om (ih s ho)
  .exact wq2 L hL (pF L f) s hs om (ih s ho) (aa s ho)
def js(L:List bR)(s:RS):PR:=pF L 201 0 s
theorem Px{L:List bR}(hL:fk L){s:RS}(hs:dI L s)(ho:s.cp=0):PI L s (js L s):=Ma hL 201 0 s hs om om
theorem uK(L:List bR)(hL:fk L)(s:RS)(hs:dI L s)(ho:s.cp=0):bN prog 227 [.ptr 0 0] [rB L s] (RR L (js L s)):=Um L s _ ((Un L hL 201 0 dC dC).chain 0 (A5 _) s hs ho)
mutual
def jN:bJ->Nat|.mk _ _ _ args=>ot args+1def ot:List bJ->Nat |[]=>0|e::l=>jN e+ot l
end
variable {e:bJ}{o:Int}{n:Int}
theorem Hn(e:bJ):jN e=ot e.args+1:=by cases e;rfl
theorem Py:∀(l:List bJ)(e:bJ),e∈l->jN e<=ot l
 |[],_,h=>by grind|x::l,e,h=>by
  rw[ot];rcases Af.1 h with rfl|h;.omega
  .have:=Py l e h;omega
inductive Good:bJ->Prop|mk(e:bJ)(hk:cL e.kind)(hs:e.s.length<=1048576)(hv:e.v.ok)(hn:e.v.s.length<=1048576)(ha:∀x∈e.args,Good x):Good e
theorem Good.str(h:Good e):e.s.length<=1048576:=by cases h;omega
theorem Good.v(h:Good e):e.v.ok:=by cases h;omega
theorem Good.sub(h:Good e):∀x∈e.args,Good x:=by cases h;omega
theorem Mc:(⟨0,0,[]⟩:bK).ok:=⟨dC,dC,dC⟩
theorem wk0(h:0<=n/\n<=9223372036854775807):(⟨2,n,[]⟩:bK).ok:=⟨sM,by grind,sM⟩
theorem wq0{s:alW}(h:s.length<=1048576):(⟨3,0,s⟩:bK).ok:=⟨sM,sM,by grind[maxLen]⟩
theorem wj4{w:alW}{a:List bJ}(h:w.length<=1048576)(ha:∀x∈a,Good x):Good (rV w a):=.mk _ (by show cL 3;decide) h Mc (A5 _) ha
theorem Jj{v:bK}(h:v.ok)(h2:v.s.length<=1048576):Good (kM v):=.mk _ (by show cL 1;decide) (A5 _) h h2 (λx hx=>by cases hx)
theorem xS3{w:alW}(h:w.length<=1048576):Good (FA w):=.mk _ (by show cL 2;decide) h Mc (A5 _) (λx hx=>by cases hx)
theorem Uo:Good dw:=.mk _ dC dC Mc dC (λx hx=>by cases hx)
theorem Md{x:bJ}(h:Good x):∀e∈[x],Good e:=(by grind)
theorem Up{x y:bJ}(h:Good x)(h2:Good y):∀e∈[x,y],Good e:=(by grind)
structure ia(L:List bR):Prop where y8:∀t∈L,t.s.length<=1048576num:∀t∈L,0<=t.n/\t.n<=9223372036854775807
variable {L:List bR}
theorem Ho{s:RS}(hs:dI L s):cK L s∈L:=by unfold cK;rw[Aj,A0 hs.at_];simp
theorem Uq(hG:ia L){w:alW}{s:RS}(hs:dI L s)(h:dH L w s):w.length<=1048576:=by have:=hG.y8 _ (Ho hs);simp_all[dH]
theorem zb(hG:ia L){s:RS}(hs:dI L s):(xH L s).1.length<=1048576:=by
 unfold xH;split;.exact hG.y8 _ (Ho hs)
 simp
structure PJ(s:RS)(x:PR):Prop where eD:Good x.1size:x.2.err=0->jN x.1+s.at_<=x.2.at_
abbrev PK(L:List bR)(s:RS)(x:PR):Prop:=PI L s x/\PJ s x
theorem wo4(w:alW)(a:List bJ):jN (rV w a)=ot a+1:=Hn _
theorem Me (x:bJ):ot [x]=jN x:=by rfl
theorem Ur(x y:bJ):ot [x,y]=jN x+jN y:=by rfl
theorem xJ2(h:e.args=[]):jN e=1:=by rw[Hn,h];rfl
theorem Hp{s0 s:RS}(p:Int){w:alW}{a:List bJ}(h1:w.length<=1048576)(h2:∀x∈a,Good x)(h3:s.err=0->ot a+1+s0.at_<=s.at_):PJ s0 (iG p w a s):=⟨wj4 h1 h2,λhe=>by have h:=Pv (p:=p) (w:=w) (a:=a) (s:=s) he;show jN (rV w a)+s0.at_<=(oj p w a s).at_;grind[FC,wo4]⟩
theorem Jk(hL:fk L)(hG:ia L){o:Int}{sub:RS->PR}(ab:∀s,dI L s->s.cp=o->PK L s (sub s))(ws:List alW){s0:RS}:∀(n:Nat)(x:PR),PK L s0 x->s0.cp=o->PJ s0 (fq L ws sub n x)
 |0,x,h,_=>h.2|n+1,x,h,ho=>by
  have aa:=Hm hL (λs h1 h2=>(ab s h1 h2).1) ws 1 x h.1 ho;unfold fq;unfold fq at aa;split;.grind
  rename_i ad;rw[alp ad]at aa;have hi:=FD ad;have hx:=h.1.cp;have hy:=ab (zV x.2) (h.1.cG.next hL hi) (by show x.2.cp=o;omega);have hl:=Uq hG h.1.cG hi;have aa:PI L s0 (iG (cK L x.2).place (eL L x.2 ws) [x.1,(sub (zV x.2)).1] (sub (zV x.2)).2):=aa;refine Jk hL hG ab ws n _ ⟨aa,Hp _ hl (Up h.2.eD hy.2.eD) (λhe=>?_)⟩ ho;have h1:=hy.2.size he;have h2:=h.2.size (hy.1.err he).1;grind[ph,Ur]
theorem wz2(hL:fk L)(_hG:ia L){rn rc:RS->PR}(h1:∀s,dI L s->s.cp=o->PK L s (rn s))(h2:∀s,dI L s->s.cp=o->PK L s (rc s))(s:RS)(hs:dI L s)(ho:s.cp=o):PJ s (oo L rn rc s):=by
 unfold oo;split;.rename_i hi;have hy:=h1 (zV s) (hs.next hL hi) ho;refine Hp _ dC (Md hy.2.eD) (λhe=>?_);have h:=hy.2.size he;grind[ph,Me]
 grind
theorem ww5(hL:fk L)(hG:ia L){sub:RS->PR}(aa:∀s,dI L s->s.cp=o->PK L s (sub s))(s:RS)(ho:s.cp=o)(x:PR)(h:PK L s x):PJ s (oq L sub x):=by
 have hx:=h.1.cp;unfold oq;split
 .rename_i hi;split;.rename_i ad;refine Hp _ dC (Md h.2.eD) (λhe=>?_);have h1:=h.2.size (za he).1;grind[FE,ph,Me]
  .refine Hp _ dC (Md h.2.eD) (λhe=>?_);have h1:=h.2.size (za he).1;grind[FE,ph,Me]
 .split;.grind
  rename_i ab;have hi:=FD ab;have hy:=aa (zV x.2) (h.1.cG.next hL hi) (by show x.2.cp=o;omega);have hl:=Uq hG h.1.cG hi;refine Hp _ hl (Up h.2.eD hy.2.eD) (λhe=>?_);have h1:=hy.2.size he;have h2:=h.2.size (hy.1.err he).1;grind[ph,Ur]
theorem Hq{s s2:RS}(ha:e.args=[])(h:Good e)(h2:s2.err=0->s2.at_=s.at_+1):PJ s (e,s2):=⟨h,(by grind[xJ2])⟩
theorem wh2(hL:fk L)(hG:ia L){un ex:RS->PR}(h1:∀s,dI L s->s.cp=o->PK L s (un s))(h2:∀s,dI L s->s.cp=o->PK L s (ex s))(s:RS)(hs:dI L s)(ho:s.cp=o):PJ s (uH L un ex s):=by
 have hm:=Ho hs;unfold uH;split;.rename_i hi;have hy:=h1 (zV s) (hs.next hL hi) ho;refine Hp _ dC (Md hy.2.eD) (λhe=>?_);have h:=hy.2.size he;grind[ph,Me]
 split;.rename_i hi;have hy:=h2 (zV s) (hs.next hL hi) ho;refine⟨hy.2.eD,λhe=>?_⟩;have h:=hy.2.size (za he).1;grind[FE,ph]
 split;.exact Hq rfl (Jj ⟨dC,dC,dC⟩ sM) (λ_=>rfl)
 split;.exact Hq rfl (Jj ⟨dC,dC,dC⟩ sM) (λ_=>rfl)
 split;.exact Hq rfl (by simp[Jj,Mc]) (λ_=>rfl)
 split;.exact Hq rfl (Jj (wk0 (hG.num _ hm)) sM) (λ_=>rfl)
 split;.exact Hq rfl (Jj (wq0 (hG.y8 _ hm)) (hG.y8 _ hm)) (λ_=>rfl)
 .refine Hq rfl (xS3 (zb hG hs)) (λhe=>?_);have hb:=(Pw he).2;unfold xH;rw[alq hb];rfl
theorem wh4(hL:fk L)(hG:ia L){rec:Nat->RS->PR}(h:∀w s,dI L s->s.cp=o->PK L s (rec w s)):∀(w:Nat)(s:RS),dI L s->s.cp=o->PJ s (k5 L rec w s) |0,s,hs,ho=>Jk hL hG (h 1) _ _ _ (by grind) ho|1,s,hs,ho=>Jk hL hG (h 2) _ _ _ (by grind) ho|2,s,hs,ho=>wz2 hL hG (h 2) (h 3) s hs ho|3,s,hs,ho=>ww5 hL hG (h 4) s ho _ (by grind)|4,s,hs,ho=>Jk hL hG (h 5) _ _ _ (by grind) ho|5,s,hs,ho=>Jk hL hG (h 6) _ _ _ (by grind) ho|_w+6,s,hs,ho=>wh2 hL hG (h 6) (h 0) s hs ho
theorem wn8{k:RS->PR}(s:RS)(hk:(yX L s).err=0->PJ (yX L s) (k (yX L s))):PJ s (kB L k s):=by
 unfold kB;split;.rename_i he;have hy:=hk he;refine⟨hy.eD,λh=>?_⟩;have h2:=hy.size h;rw[L9]at h2;exact h2
 .rename_i he;exact⟨Uo,λh=>absurd h he⟩
theorem Jl(hL:fk L)(hG:ia L):∀(f:Nat)(w:Nat)(s:RS),dI L s->s.cp<=200->201<=(f:Int)+s.cp->PJ s (pF L f w s)
 |0,w,s,hs,h2,hf=>by omega|f+1,w,s,hs,h2,hf=>by unfold pF;refine wn8 s (λhe=>?_);have h3:=(v8 he).2;exact wh4 hL hG (o:=s.cp+1) (λw t ht ho=>⟨Ma hL f w t ht om (by push_cast at hf;omega),Jl hL hG f w t ht om (by push_cast at hf;omega)⟩) w _ (wa hs h2) (rX s)
theorem Pz{L:List bR}(hL:fk L)(hG:ia L){s:RS}(hs:dI L s)(ho:s.cp=0):PJ s (js L s):=Jl hL hG 201 0 s hs om om
structure UI(L:List bR)(s s':RS):Prop where
 cG:dI L s'
 cp:s'.cp=s.cp
 up:s.at_<=s'.at_
 err:s'.err=0->s.err=0
variable {L:List bR}
theorem UI.refl{s:RS}(h:dI L s):UI L s s:=⟨h,rfl,A7 _,id⟩
theorem UI.trans{s s2 s3:RS}(h:UI L s s2)(k:UI L s2 s3):UI L s s3:=⟨k.cG,k.cp.trans h.cp,Ax h.up k.up,λe=>h.err (k.err e)⟩
theorem PI.ui{s:RS}{x:PR}(h:PI L s x):UI L s x.2:=⟨h.cG,h.cp,h.up,λe=>(h.err e).1⟩
theorem yN(hL:fk L)(w:alW){s:RS}(h:dI L s):UI L s (yJ L w s):=⟨vZ hL h,FF w s,FE w s,λe=>(za e).1⟩
theorem ou(hL:fk L){s:RS}(h:dI L s):UI L s (xH L s).2:=⟨Ue hL h,Ug s,Uf s,λe=>(Pw e).1⟩
theorem xC(hL:fk L){w:alW}{s:RS}(h:dI L s)(hi:dH L w s):UI L s (zV s):=⟨h.next hL hi,rfl,by simp[zV],id⟩
theorem Us(e p:Int){s:RS}(h:dI L s)(he:e≠0):UI L s (iZ e p s):=⟨Pu h e p,Jh e p s,by rw[Jg];exact A7 _,λq=>absurd q (FB he)⟩
theorem PA(hL:fk L){s:RS}(h:dI L s):UI L s (iB L s).2:=by
 unfold iB;split;.rename_i hb;unfold uF at hb;simp only[Aa,alx]at hb;exact⟨hL.next h (by rw[hb.2];decide),rfl,by simp[zV],id⟩
 .exact Us _ _ h dC
def kO(L:List bR)(n eE:Int)(b:Bool)(s:RS):RS:=if s.err=0/\eE<=n then iZ (if b=true then 3 else 13) (cK L s).place s else s
theorem uL{eE:Int}{b:Bool}{s:RS}(h:dI L s):UI L s (kO L n eE b s):=by
 unfold kO;split;.exact Us _ _ h (by split<;>decide)
 .exact UI.refl h
theorem wg{eE:Int}{b:Bool}{s:RS}(h:(kO L n eE b s).err=0):s.err=0/\n<eE/\kO L n eE b s=s:=by
 unfold kO at h⊢;split at h;.exact absurd h (FB (by split<;>decide))
 .rename_i hc;rw[alp hc];refine⟨h,?_,rfl⟩;by_cases q:eE<=n;.exact absurd ⟨h,q⟩ hc
  .omega
theorem Jm(L:List bR)(hL:fk L)(s:RS)(hs:dI L s)(n eE:Int)(b:Bool):bN prog 74 [.ptr 0 0,.int .i64 n,.int .i64 eE,.bool b] [rB L s] (λr I=>r=.bool ((kO L n eE b s).err==0)/\I=[rB L (kO L n eE b s)]):=by
 have ht:=oi L hL s hs;have ae:=DH L s 3 (cK L s).place;have ad:=DH L s 13 (cK L s).place;have hM:kO L n eE b s=if s.err=0/\eE<=n then(if b=true then iZ 3 (cK L s).place s else iZ 13 (cK L s).place s)else s:=by unfold kO;cases b<;>rfl
 generalize kO L n eE b s=M at hM⊢;have e3:(iZ 3 (cK L s).place s).err≠0:=FB dC;have af:(iZ 13 (cK L s).place s).err≠0:=FB dC;generalize iZ 3 (cK L s).place s=f3 at*;generalize iZ 13 (cK L s).place s=f13 at*;refine iW 1 func74 ntmps74 results74 λc hc hb=>zM ?_;simp[go_sem,rB];by_cases q1:s.err=0;rotate_left;.have aa:(s.err==0)=false:=sU q1;rw[alp (λh=>q1 h.1)]at hM;simp[go_sem,aa];exact xS (L:=L) (s:=s) (zC rfl) ⟨by rw[hM,aa],by rw[hM];rfl⟩
 have aa:(s.err==0)=true:=sU q1;by_cases q2:eE<=n;rotate_left;.have ab:decide (eE<=n)=false:=alr q2;rw[alp (λh=>q2 h.2)]at hM;simp[go_sem,aa,ab];exact xS (L:=L) (s:=s) (zC rfl) ⟨by rw[hM,aa],by rw[hM];rfl⟩
 have ab:decide (eE<=n)=true:=als q2;rw[alq ⟨q1,q2⟩]at hM;simp[go_sem,aa,ab];refine(A6 b).elim (λq=>?_) (λq=>?_);.rw[alq q]at hM;have ah:(f3.err==0)=false:=sU e3;subst q;simp[go_sem];refine pR ht ?_;simp[go_sem];refine pR ae ?_;simp[go_sem,rB];exact xS (L:=L) (s:=f3) (zC rfl) ⟨by rw[hM],by rw[hM];rfl⟩
 .rw[alp (by rw[q];decide)]at hM;subst q;simp[go_sem];refine pR ht ?_;simp[go_sem];refine pR ad ?_;simp[go_sem,rB];exact xS (L:=L) (s:=f13) (zC rfl) ⟨by rw[hM],by rw[hM];rfl⟩
def Hr:alW:= [67,79,85,78,84]
def rY:alW:= [83,85,77]
def PB:List alW:=[[45],[40],[78,79,84],[84,82,85,69],[70,65,76,83,69],[78,85,76,76]]
def ki(L:List bR)(item:Bool)(s:RS):Bool:=((cK L s).kind==2||((cK L s).kind==3||((cK L s).kind==1&&l9 (cK L s).s)))||((item&&(dH L Hr s||dH L rY s))||!(eL L s PB==[]))
theorem Ut(L:List bR)(hL:fk L)(s:RS)(hs:dI L s)(item:Bool):bN prog 226 [.ptr 0 0,.bool item] [rB L s] (λr I=>r=.bool (ki L item s)/\I=[rB L s]):=by
 have ht:=oi L hL s hs;have h1:=jM L hL s hs Hr;have h2:=jM L hL s hs rY;have h3:=DI L hL s hs PB dC;have ab:=hL.y8 _ (Ho hs);have hw:=Pt (cK L s).s ab;generalize hM:ki L item s=M;unfold ki at hM;generalize dH L Hr s=c1 at h1 hM;generalize dH L rY s=c2 at h2 hM;generalize eL L s PB=a at h3 hM;generalize l9 (cK L s).s=b at hw hM;have ad:(a !=[])=!a.isEmpty:=by cases a<;>rfl
 have aa:(a==[])=a.isEmpty:=by cases a<;>rfl
 rw[aa]at hM;have ret:∀(r:Bool)(τ:St),r=M->cz (some (.bool r)) 1 (λr I=>r=.bool M/\I=[rB L s]) (rB L s::τ):=λr τ h=>by subst h;exact xS (zC rfl) ⟨rfl,rfl⟩
 refine iW 1 func226 ntmps226 results226 λc hc hb=>zM ?_;simp[go_sem];refine pR ht ?_;simp[go_sem];repeat'(first |(refine xG (λq=>?_) (λq=>?_)<;>simp[go_sem,q])|(refine zX (λq=>?_) (λq=>?_)<;>simp[go_sem,q])|(refine pC hw ?_;simp[go_sem])|(refine pR h1 ?_;simp[go_sem])|(refine pR h2 ?_;simp[go_sem])|(refine pR h3 ?_;simp[go_sem]))
 all_goals exact ret _ _ (by rw[<-hM];simp_all)
variable {L:List bR}
def FI:alW:= [87,72,69,82,69]
def pX(L:List bR)(s:RS):RS:=if dH L FI s=true then(js L (zV s)).2else s
def kj(e:bJ):List V:=[.int .i64 e.kind,.str e.s,.int .i64 e.v.kind,.int .i64 e.v.n,.str e.v.s,.sl .ro (e.args.map bJ.row)]
def Mf(L:List bR)(s:RS)(a b:List V)(o:Ob):Ob:=if dH L FI s=true then .box (a++[.bool true]++kj (js L (zV s)).1++b)else o
theorem wi(hL:fk L){s:RS}(h:dI L s)(ho:s.cp=0):UI L s (js L s).2:=(Px hL h ho).ui
theorem Hs(hL:fk L){s:RS}(h:dI L s)(ho:s.cp=0):UI L s (pX L s):=by
 unfold pX;split;.rename_i hi;exact(xC hL h hi).trans (wi hL (h.next hL hi) ho)
 .exact UI.refl h
theorem wr4(L:List bR)(hL:fk L)(s:RS)(hs:dI L s)(ho:s.cp=0)(τ:St)(j:Nat)(c0 c1 c2 c3 c4 c5 c6 c7 c8 c9 af ah ab ad ae:V)(hj:τ[j]?=some (.box [c0,c1,c2,c3,c4,c5,c6,c7,c8,c9,af,ah,ab,ad,ae])):bN prog 155 [.ptr 0 0,.ptr (j+1) 0] (rB L s::τ) (λr I=>r=.cC []/\I=rB L (pX L s)::τ.set j (Mf L s [c0,c1,c2,c3,c4] [ab,ad,ae] (.box [c0,c1,c2,c3,c4,c5,c6,c7,c8,c9,af,ah,ab,ad,ae]))):=by
 have ak:=(A3.1 hj).1;have ai:=(A3.1 hj).2;unfold pX Mf;refine bN.intro (τ.length+1) func155 ntmps155 results155 rfl rfl (Ca rfl) λc hc hb=>zM ?_;by_cases q:dH L FI s=true
 .rw[alq q,alq q];have aa:=xY L hL s hs _ q;have aj:=uK L hL (zV s) (hs.next hL q) ho;generalize js L (zV s)=y at aj⊢;simp[go_sem];refine pR aa ?_;simp[go_sem];refine kC aj cB gj ?_;simp[go_sem,bJ.bQ,ai,ak];refine Hc ?_ ⟨rfl,?_⟩;.simp
  .simp[go_sem,kj]
 .have q:dH L FI s=false:=sU q;have aa:=jZ L hL s hs _ q;rw[alp (by rw[q];decide),alp (by rw[q];decide)];simp[go_sem];refine pR aa ?_;simp[go_sem];refine Hc sM ⟨rfl,?_⟩;rw[<-ai,List.set_getElem_self]
def pY(L:List bR)(s:RS):de×RS:=if dH L Hr s=true then(⟨3,dw⟩,yJ L [41] (yJ L [42] (yJ L [40] (zV s))))else if dH L rY s=true then(⟨4,(js L (yJ L [40] (zV s))).1⟩,yJ L [41] (js L (yJ L [40] (zV s))).2)else(⟨2,(js L s).1⟩,(js L s).2)
def uM(L:List bR):Nat->List de->RS->List de×RS|0,l,s=>(l,s)|n+1,l,s=>if(kO L l.length 6 (ki L true s) s).err=0then(if dH L [44] (pY L s).2=true then uM L n (l++[(pY L s).1]) (zV (pY L s).2)else(l++[(pY L s).1],(pY L s).2))else(l,kO L l.length 6 (ki L true s) s)
def rZ(L:List bR)(s:RS):List de×RS:=if dH L [42] s=true then([⟨1,dw⟩],zV s)else uM L 7 [] s
theorem PC(hL:fk L){s:RS}(h:dI L s)(ho:s.cp=0):UI L s (pY L s).2:=by
 unfold pY;split;.rename_i hi;have h1:=xC hL h hi;have h2:=h1.trans (yN hL [40] h1.cG);have h3:=h2.trans (yN hL [42] h2.cG);exact h3.trans (yN hL [41] h3.cG)
 split;.rename_i hi;have h1:=xC hL h hi;have h2:=h1.trans (yN hL [40] h1.cG);have h3:=h2.trans (wi hL h2.cG (h2.cp.trans ho));exact h3.trans (yN hL [41] h3.cG)
 .exact wi hL h ho
theorem xD7{τ:St}{l:List de}{s:RS}{g:Tag}{M:List de×RS}(h:(l,s)=M):cz (some (.sl g (l.map de.row))) 1 (λr I=>r=.sl .ro (M.1.map de.row)/\I=[rB L M.2]) (rB L s::τ):=by subst h;exact xS zK ⟨rfl,rfl⟩
theorem wk2(L:List bR)(hL:fk L)(s0:RS)(an:dI L s0)(ax:s0.cp=0):bN prog 225 [.ptr 0 0] [rB L s0] (λr I=>r=.sl .ro ((rZ L s0).1.map de.row)/\I=[rB L (rZ L s0).2]):=by
 generalize hM:rZ L s0=M;unfold rZ at hM;refine iV 1 func225 ntmps225 results225 λc hc hb=>?_;refine zA ?_;simp[go_sem];by_cases q0:dH L [42] s0=true;.rw[alq q0]at hM;refine pR (xY L hL s0 an _ q0) ?_;simp[go_sem];refine xS (r:=.sl .ro ([(⟨1,dw⟩:de)].map de.row)) ?_ ⟨by rw[<-hM],by rw[<-hM]⟩;exact zK
 have q0:dH L [42] s0=false:=sU q0;rw[alp (by rw[q0];decide)]at hM;refine pR (jZ L hL s0 an _ q0) ?_;simp[go_sem];refine wQ 3 7 dC sg ?_;refine zG (S:=List de×RS) [0,3] (λu=>[.ptr 0 0,.sl (.app 1) (u.1.map de.row)]) (λu=>[rB L u.2,.app u.1.length 7]) (λu=>7-u.1.length) (λu=>u.1.length<=6/\UI L s0 u.2/\uM L (7-u.1.length) u.1 u.2=M) hc hb ([],s0) ⟨A5 _,UI.refl an,hM⟩ ?_ ?_;.exact aN 2 (by simp[rB,bS,cV,cR])
 rintro⟨l,s⟩⟨hl,hu,hinv⟩;simp only at hl hu hinv;have hs:=hu.cG;have ho:=hu.cp.trans ax;have ae:=Ut L hL s hs true;have ab:=Jm L hL s hs l.length 6 (ki L true s);have ao:=wg (L:=L) (n:=l.length) (eE:=6) (b:=ki L true s) (s:=s);rw[show 7-l.length=(6-l.length)+1by omega,uM]at hinv;generalize ki L true s=bg at ae ab ao hinv;generalize kO L l.length 6 bg s=m at ab ao hinv;by_cases q:m.err=0;rotate_left;.have q':(m.err==0)=false:=sU q;rw[alp q]at hinv;rw[q']at ab;refine zA ?_;simp[go_sem];refine pR ae ?_;simp[go_sem];refine pR ab ?_;simp[go_sem];exact xD7 hinv
 have q':(m.err==0)=true:=sU q;obtain⟨he,ay,rfl⟩:=ao q;rw[alq q]at hinv;rw[q']at ab;have al:=PC hL hs ho;have ad:=hu.trans al;generalize hit:pY L m=it at hinv al ad;unfold pY at hit;have aa:∀b,dH L [44] it.2=b->bN prog 76 [.ptr 0 0,.str [44]] [rB L it.2] (λr I=>r=.bool b/\I=[rB L (if b=true then zV it.2else it.2)]):=λb hb=>by cases b with|true=>exact xY L hL it.2 ad.cG _ hb|false=>exact jZ L hL it.2 ad.cG _ hb
 by_cases q1:dH L Hr m=true
 .rw[alq q1]at hit;have ai:=hs.next hL q1;have aj:=ma L hL _ ai [40];have af:=vZ hL (w:=[40]) ai;generalize yJ L [40] (zV m)=u1 at aj af hit;have aq:=ma L hL _ af [42];have ar:=vZ hL (w:=[42]) af;generalize yJ L [42] u1=u2 at aq ar hit;have ak:=ma L hL _ ar [41];generalize yJ L [41] u2=u3 at ak hit;subst hit;simp only at hinv ad aa;refine zA ?_;simp[go_sem];refine pR ae ?_;simp[go_sem];refine pR ab ?_;simp[go_sem];refine pR (xY L hL m hs _ q1) ?_;simp[go_sem];refine pR aj ?_;simp[go_sem];refine pR aq ?_;simp[go_sem];refine pR ak ?_;simp[go_sem];refine zJ ⟨om,zZ rfl⟩ ?_;simp[go_sem];refine(A6 (dH L [44] u3)).elim (λq2=>?_) (λq2=>?_);.rw[alq q2]at hinv;refine pR (aa true q2) ?_;simp[go_sem];refine zH (l++[⟨3,dw⟩],zV u3) ⟨by simp;omega,⟨by simp;omega,ad.trans (xC hL ad.cG q2),by simp only[Al,Bh,show 7-(l.length+1)=6-l.length by omega];exact hinv⟩,?_⟩;exact aM 2 (by simp[rB,bS,cV,cR]) (zD (by simp[go_sem]<;>exact⟨rfl,rfl,rfl,rfl,rfl,rfl⟩) rfl)
  .rw[alp (by rw[q2];decide)]at hinv;refine pR (aa false q2) ?_;simp[go_sem];exact xS (L:=L) zK ⟨by rw[<-hinv];simp[de.row]<;>exact⟨rfl,rfl,rfl,rfl,rfl,rfl⟩,by rw[<-hinv]⟩
 have q1:dH L Hr m=false:=sU q1;rw[alp (by rw[q1];decide)]at hit;by_cases ah:dH L rY m=true
 .rw[alq ah]at hit;have ai:=hs.next hL ah;have aj:=ma L hL _ ai [40];have af:=vZ hL (w:=[40]) ai;have au:=FF (L:=L) [40] (zV m);generalize yJ L [40] (zV m)=u1 at aj af au hit;have av:u1.cp=0:=by rw[au];exact ho
  have hx:=uK L hL u1 af av;have aw:=(Px hL af av).cG;generalize js L u1=x at hx aw hit;have ak:=ma L hL _ aw [41];generalize yJ L [41] x.2=u3 at ak hit;subst hit;simp only at hinv ad aa;refine zA ?_;simp[go_sem];refine pR ae ?_;simp[go_sem];refine pR ab ?_;simp[go_sem];refine pR (jZ L hL m hs _ q1) ?_;simp[go_sem];refine pR (xY L hL m hs _ ah) ?_;simp[go_sem];refine pR aj ?_;simp[go_sem];refine kC hx cB gj ?_;simp[go_sem,bJ.bQ];refine pR ak ?_;simp[go_sem];refine zJ ⟨om,zZ rfl⟩ ?_;simp[go_sem];refine(A6 (dH L [44] u3)).elim (λq2=>?_) (λq2=>?_);.rw[alq q2]at hinv;refine pR (aa true q2) ?_;simp[go_sem];refine zH (l++[⟨4,x.1⟩],zV u3) ⟨by simp;omega,⟨by simp;omega,ad.trans (xC hL ad.cG q2),by simp only[Al,Bh,show 7-(l.length+1)=6-l.length by omega];exact hinv⟩,?_⟩;exact aM 2 (by simp[rB,bS,cV,cR]) (zD (by simp[go_sem]<;>exact⟨rfl,rfl,rfl,rfl,rfl,rfl⟩) rfl)
  .rw[alp (by rw[q2];decide)]at hinv;refine pR (aa false q2) ?_;simp[go_sem];exact xS (L:=L) zK ⟨by rw[<-hinv];simp[de.row]<;>exact⟨rfl,rfl,rfl,rfl,rfl,rfl⟩,by rw[<-hinv]⟩
 have ah:dH L rY m=false:=sU ah;rw[alp (by rw[ah];decide)]at hit
 .have hx:=uK L hL m hs ho;generalize js L m=x at hx hit;subst hit;simp only at hinv ad aa;refine zA ?_;simp[go_sem];refine pR ae ?_;simp[go_sem];refine pR ab ?_;simp[go_sem];refine pR (jZ L hL m hs _ q1) ?_;simp[go_sem];refine pR (jZ L hL m hs _ ah) ?_;simp[go_sem];refine kC hx cB gj ?_;simp[go_sem,bJ.bQ];refine zJ ⟨om,zZ rfl⟩ ?_;simp[go_sem];refine(A6 (dH L [44] x.2)).elim (λq2=>?_) (λq2=>?_);.rw[alq q2]at hinv;refine pR (aa true q2) ?_;simp[go_sem];refine zH (l++[⟨2,x.1⟩],zV x.2) ⟨by simp;omega,⟨by simp;omega,ad.trans (xC hL ad.cG q2),by simp only[Al,Bh,show 7-(l.length+1)=6-l.length by omega];exact hinv⟩,?_⟩;exact aM 2 (by simp[rB,bS,cV,cR]) (zD (by simp[go_sem]<;>exact⟨rfl,rfl,rfl,rfl,rfl,rfl⟩) rfl)
  .rw[alp (by rw[q2];decide)]at hinv;refine pR (aa false q2) ?_;simp[go_sem];exact xS (L:=L) zK ⟨by rw[<-hinv];simp[de.row]<;>exact⟨rfl,rfl,rfl,rfl,rfl,rfl⟩,by rw[<-hinv]⟩
end Go.Proofs.YtegbonbgofjlcaaGreat
