/-
  The document's reader of statements: what a SELECT tells, and WHERE, over trees (the library Vx); used by the theorem at the end of the claim.
  Conditions: as each theorem states them.
-/
import Derived.Test.YtefbicjgbaaieaaGreatLAE
set_option maxHeartbeats 8000000
namespace Go.Proofs.YtefbicjgbaaieaaGreat
open Go Go.Vx Go.Proofs.Tryz
set_option maxRecDepth 100000
variable{τ:St}{P:Program}{c:Ctx}{f:FuncId}{bY:List V}{cc:List V}{KV:V->St->Prop}
def uN(s:aij):aij:=if s=[60]then[62]else if s=[60,61]then[62,61]else if s=[62]then[60]else if s=[62,61]then[60,61]else s
theorem ZQ(s:aij):Pure prog 180 [.str s] (.str (uN s)):=by
 generalize hM:uN s=M;have ret:∀(r:aij)(U:St),r=M->bW (some (.str r)) 0 (λr s=>r=.str M/\s=[]) U:=λr U h=>by subst h;exact wR
 unfold uN at hM;refine iW 0 func180 ntmps180 results180 λc hc hb=>zM ?_;simp[go_sem];repeat'(first|(refine yA (λq=>?_) (λq=>?_)<;>simp[go_sem,q])|(refine zO (λq=>?_) (λq=>?_)<;>simp[go_sem,q]))
 all_goals exact ret _ _ (by simp_all)
theorem ZR(s:aij):Pure prog 354 [.str s] (.str (uN s)):=by
 generalize hM:uN s=M;have ret:∀(r:aij)(U:St),r=M->bW (some (.str r)) 0 (λr s=>r=.str M/\s=[]) U:=λr U h=>by subst h;exact wR
 unfold uN at hM;refine iW 0 func354 ntmps354 results354 λc hc hb=>zM ?_;simp[go_sem];repeat'(first|(refine yA (λq=>?_) (λq=>?_)<;>simp[go_sem,q])|(refine zO (λq=>?_) (λq=>?_)<;>simp[go_sem,q]))
 all_goals exact ret _ _ (by simp_all)
def p5(s:aij):Bool:=s==[65,78,68]||s==[79,82]||s==[78,79,84]
def nh(s:aij):Bool:=s==[43]||s==[45]||s==[42]||s==[47]||s==[37]||s==[78,69,71]
theorem ZS(s:aij):Pure prog 311 [.str s] (.bool (p5 s)):=by
 generalize hM:p5 s=M;have ret:∀(r:Bool)(U:St),r=M->bW (some (.bool r)) 0 (λr s=>r=.bool M/\s=[]) U:=λr U h=>by subst h;exact wR
 unfold p5 at hM;refine iW 0 func311 ntmps311 results311 λc hc hb=>zM ?_;simp[go_sem];repeat'(first|(refine yA (λq=>?_) (λq=>?_)<;>simp[go_sem,q])|(refine zO (λq=>?_) (λq=>?_)<;>simp[go_sem,q]))
 all_goals exact ret _ _ (by simp_all)
theorem Nb(s:aij):Pure prog 312 [.str s] (.bool (nh s)):=by
 generalize hM:nh s=M;have ret:∀(r:Bool)(U:St),r=M->bW (some (.bool r)) 0 (λr s=>r=.bool M/\s=[]) U:=λr U h=>by subst h;exact wR
 unfold nh at hM;refine iW 0 func312 ntmps312 results312 λc hc hb=>zM ?_;simp[go_sem];repeat'(first|(refine yA (λq=>?_) (λq=>?_)<;>simp[go_sem,q])|(refine zO (λq=>?_) (λq=>?_)<;>simp[go_sem,q]))
 all_goals exact ret _ _ (by simp_all)
def iS:List aij:=[[79,82],[65,78,68],[61],[60,62],[60],[60,61],[62],[62,61],[43],[45],[42],[47],[37]]
def jM:List aij:=[[78,79,84],[73,83,78,85,76,76],[78,79,84,78,85,76,76],[78,69,71]]
def iM(s:aij):Int:=if iS.contains s=true then 2 else if jM.contains s=true then 1 else 0
theorem RD(s:aij):Pure prog 310 [.str s] (.int .i64 (iM s)):=by
 generalize hM:iM s=M;have ret:∀(r:Int)(U:St),r=M->bW (some (.int .i64 r)) 0 (λr s=>r=.int .i64 M/\s=[]) U:=λr U h=>by subst h;exact wR
 unfold iM iS jM at hM;simp only[Di,List.contains_nil]at hM;refine iW 0 func310 ntmps310 results310 λc hc hb=>zM ?_;simp[go_sem];repeat'(first|(refine yA (λq=>?_) (λq=>?_)<;>simp[go_sem,q])|(refine zO (λq=>?_) (λq=>?_)<;>simp[go_sem,q]))
 all_goals exact ret _ _ (by simp_all)
def xX(b:Bool):bF:=⟨1,if b then 1 else 0,[]⟩
theorem FN(b:Bool):Pure prog 226 [.bool b] (.agg (xX b).row):=by refine iW 0 func226 ntmps226 results226 λc hc hb=>zM ?_;simp[go_sem];cases b<;>simp[go_sem]<;>exact wR
theorem tF(b:Bool):Pure prog 329 [.bool b] (.agg (xX b).row):=by refine iW 0 func329 ntmps329 results329 λc hc hb=>zM ?_;simp[go_sem];cases b<;>simp[go_sem]<;>exact wR
theorem JT(v:bF):Pure prog 314 [.agg v.row] (.bool (v.kind==0)):=by refine iW 0 func314 ntmps314 results314 λc hc hb=>zM ?_;simp[go_sem];exact wR
theorem ZT(v:bF):Pure prog 331 [.agg v.row] (.int .i64 (if v.kind=0then 2 else v.n)):=by
 refine iW 0 func331 ntmps331 results331 λc hc hb=>zM ?_;simp[go_sem];refine zO (λq=>?_) (λq=>?_);.have q:v.kind=0:=sU q;simp[go_sem,q];exact wR
 .have q:¬v.kind=0:=sU q;simp[go_sem,q];exact wR
theorem JU(k w:Int):Pure prog 102 [.int .i64 k,.int .i64 w] (.bool (k==w||k==0)):=by
 refine iW 0 func102 ntmps102 results102 λc hc hb=>zM ?_;simp[go_sem];repeat'(first|(refine yA (λq=>?_) (λq=>?_)<;>simp[go_sem,q])|(refine zO (λq=>?_) (λq=>?_)<;>simp[go_sem,q]))
 all_goals exact zV (zD rfl) ⟨by simp_all,rfl⟩
def uO(many Nc:Bool)(k:Int):Int×Int:=if many=false then(0,9)else if Nc=false then(0,15)else(k,0)
def yN(r:Int×Int):V:=.cm [.int .i64 r.1,.int .i64 r.2]
theorem xA{r:Int×Int}{a e:Int}{U:St}(h:r=(a,e)):bW (some (.cm [.int .i64 a,.int .i64 e])) 0 (λv s=>v=yN r/\s=[]) U:=by subst h;exact wR
theorem JV(many aa:Bool)(k:Int):Pure prog 347 [.bool many,.bool aa,.int .i64 k] (yN (uO many aa k)):=by refine iW 0 func347 ntmps347 results347 λc hc hb=>zM ?_;cases many<;>cases aa<;>simp[go_sem]<;>exact xA rfl
def gu(l:aim)(k:Int):Bool:=l.all λx=>x==k||x==0
theorem JW(l:aim)(k:Int)(hl:l.length<=maxLen):Pure prog 348 [.sl .ro (l.map λn=>[V.int .i64 n]),.int .i64 k] (.bool (gu l k)):=by
 generalize hM:gu l k=M;have ret:∀(r:Bool)(U:St),r=M->bW (some (.bool r)) 0 (λr s=>r=.bool M/\s=[]) U:=λr U h=>by subst h;exact wR
 unfold gu at hM;refine iV 0 func348 ntmps348 results348 λc hc hb=>?_;refine zA ?_;simp[go_sem];refine zG (S:=Nat) [1,7,8,9] (λi=>[.int .i64 k,.sl .ro (l.map λn=>[V.int .i64 n]),.int .i64 l.length,.int .i64 i]) (λ_=>[]) (λi=>l.length-i) (λi=>i<=l.length/\((l.drop i).all λx=>x==k||x==0)=M) hc hb 0 ⟨A3 _,hM⟩ ?_ ?_;.exact aO
 rintro i⟨hi,hinv⟩;by_cases q:i<l.length;rotate_left;.have e:l.drop i=[]:=A4 om;rw[e]at hinv;refine zA ?_;simp[go_sem,q];exact ret _ _ hinv
 have ei:=zR q (by unfold maxLen at hl;omega);obtain⟨r,hr⟩:=eX (l[i]);rw[A2 q,Aq,hr]at hinv;refine zA ?_;simp[go_sem,q,hr];by_cases w1:r=k;.simp[go_sem,w1,ei];rw[w1,beq_self_eq_true,Cd,Ah]at hinv;exact zH (i+1) ⟨om,⟨q,hinv⟩,aO⟩
 have aa:(r !=k)=true:=sU w1;by_cases w2:r=0
 .have w3:(r !=0)=false:=by simp[w2]
  simp[go_sem,aa,w3,ei];rw[w2,beq_self_eq_true,Dz,Ah]at hinv;exact zH (i+1) ⟨om,⟨q,hinv⟩,aO⟩
 have ab:(r !=0)=true:=sU w2;simp[go_sem,aa,ab];exact ret _ _ (by rw[<-hinv,show(r==k)=false by simpa using w1,show(r==0)=false by simpa using w2];rfl)
def mb(s:aij)(l:aim):Int×Int:=if s=[73,83,78,85,76,76]\/s=[78,79,84,78,85,76,76]then uO ((l.length:Int)==1) true 1 else if s=[78,79,84]then uO ((l.length:Int)==1) (gu l 1) 1 else if s=[78,69,71]then uO ((l.length:Int)==1) (gu l 2) 2 else if s=[79,82]\/s=[65,78,68]then uO ((l.length:Int)==2) (gu l 1) 1 else if s=[43]\/s=[45]\/s=[42]\/s=[47]\/s=[37]then uO ((l.length:Int)==2) (gu l 2) 2 else if s=[61]\/s=[60,62]\/s=[60]\/s=[60,61]\/s=[62]\/s=[62,61]then uO ((l.length:Int)==2) ((l.length:Int)==2&&(l.getD 0 0==l.getD 1 0||(l.getD 0 0==0||l.getD 1 0==0))) 1 else(0,9)
theorem ZU(s:aij)(x y:Int):Pure prog 313 [.str s,.sl .ro [[.int .i64 x],[.int .i64 y]]] (yN (mb s [x,y])):=by
 generalize hM:mb s [x,y]=M;have ret:∀(r:Int×Int)(U:St),r=M->bW (some (.cm [.int .i64 r.1,.int .i64 r.2])) 0 (λr s=>r=yN M/\s=[]) U:=λr U h=>by subst h;exact zV (zD rfl) (by trivial)
 unfold mb at hM;have h1:=JW [x,y] 1 (by unfold maxLen;simp);have h2:=JW [x,y] 2 (by unfold maxLen;simp);simp only[Ad,Bp]at h1 h2;generalize gu [x,y] 1=a1 at h1 hM;generalize gu [x,y] 2=a2 at h2 hM;simp only[List.getD_cons_zero,List.getD_cons_succ]at hM;refine iW 0 func313 ntmps313 results313 λc hc hb=>zM ?_;simp[go_sem];repeat'(first |(refine zO (λq=>?_) (λq=>?_)<;>simp[go_sem,q])|(refine yA (λq=>?_) (λq=>?_)<;>simp[go_sem,q])|(refine yB [(23,0)] 0 rfl kR kR ?_;simp[go_sem])|(refine pC h1 ?_;simp[go_sem])|(refine pC h2 ?_;simp[go_sem])|(refine pC (JV _ _ _) ?_;simp[go_sem,yN])|(refine pD (JV _ _ _) ?_;simp[go_sem,yN]))
 all_goals first|exact ret _ _ (by simp_all)|exact ret (0,9) _ (by simp_all)
theorem ZV(s:aij)(l:aim)(hl:l.length<=maxLen)(hn:((l.length:Int)==2)=false):Pure prog 313 [.str s,.sl .ro (l.map λn=>[V.int .i64 n])] (yN (mb s l)):=by
 generalize hM:mb s l=M;have ret:∀(r:Int×Int)(U:St),r=M->bW (some (.cm [.int .i64 r.1,.int .i64 r.2])) 0 (λr s=>r=yN M/\s=[]) U:=λr U h=>by subst h;exact zV (zD rfl) (by trivial)
 unfold mb at hM;have h1:=JW l 1 hl;have h2:=JW l 2 hl;generalize gu l 1=a1 at h1 hM;generalize gu l 2=a2 at h2 hM;simp only[hn,B2]at hM;refine iW 0 func313 ntmps313 results313 λc hc hb=>zM ?_;simp[go_sem];repeat'(first |(refine zO (λq=>?_) (λq=>?_)<;>simp[go_sem,q,hn])|(refine yB [(23,0)] 0 rfl kR kR ?_;simp[go_sem])|(refine pC h1 ?_;simp[go_sem])|(refine pC h2 ?_;simp[go_sem])|(refine pC (JV _ _ _) ?_;simp[go_sem,yN])|(refine pD (JV _ _ _) ?_;simp[go_sem,yN]))
 all_goals first|exact ret _ _ (by simp_all)|exact ret (0,9) _ (by simp_all)
theorem ZW(s:aij)(l:aim)(hl:l.length<=maxLen):Pure prog 313 [.str s,.sl .ro (l.map λn=>[V.int .i64 n])] (yN (mb s l)):=by
 by_cases h:l.length=2;.match l,h with|[x,y],_=>grind[ZU]
 grind[ZV]
theorem qX{ρ:Nat->Nat}{g:Tag}{rows fp:List (List V)}(h:fp=rows):cR ρ (.sl .ro fp) (.sl g rows):=by subst h;exact zP
theorem JX{n:Int}(h:0<=n)(h2:n<=255):IntKind.u8.wrap n=n:=by unfold IntKind.wrap;simp[IntKind.bits,IntKind.signed];omega
def yT(c:UInt8):UInt8:=if 97<=c.toNat/\c.toNat<=122then UInt8.ofNat (c.toNat-32)else c
def jN(c:UInt8):Bool:=decide (48<=c.toNat/\c.toNat<=57)
def mL(c:UInt8):Bool:=decide (65<=(yT c).toNat/\(yT c).toNat<=90)||decide (c.toNat=95)
theorem Nd(c:UInt8):Pure prog 205 [.int .u8 c.toNat] (.int .u8 (yT c).toNat):=by
 have hc:=c.toNat_lt;have ret:∀(r:Int)(U:St),r=((yT c).toNat:Int)->bW (some (.int .u8 r)) 0 (λr s=>r=.int .u8 (yT c).toNat/\s=[]) U:=λr U h=>by subst h;exact wR
 unfold yT at ret⊢;obtain⟨n,hn⟩:=eX c.toNat;have aa:n<=255->(UInt8.ofNat (n-32)).toNat=n-32:=λh=>by rw[UInt8.toNat_ofNat'];exact Cr om
 rw[hn]at hc ret⊢;refine iW 0 func205 ntmps205 results205 λc hc hb=>zM ?_;simp[go_sem];refine yA (λq=>?_) (λq=>?_)
 .have q1:97<=n:=by simp at q;omega
  simp[go_sem,q];refine zO (λq2=>?_) (λq2=>?_)
  .have q2:n<=122:=by simp at q2;omega
   have e1:IntKind.u8.wrap ((n:Int)-97)=(n:Int)-97:=JX om om;have e2:IntKind.u8.wrap ((n:Int)-97+65)=(n:Int)-97+65:=JX om om;simp[go_sem,e1,e2];exact ret _ _ (by rw[ahP ⟨q1,q2⟩,aa om];omega)
  .have q2:¬n<=122:=by simp at q2;omega
   simp[go_sem];exact ret _ _ (by rw[ahO (λh=>q2 h.2),hn])
 .have q1:¬97<=n:=by simp at q;omega
  simp[go_sem,q];exact ret _ _ (by rw[ahO (λh=>q1 h.1),hn])
theorem Hx(c:UInt8):Pure prog 204 [.int .u8 c.toNat] (.bool (jN c)):=by
 unfold jN;generalize c.toNat=n;generalize hM:decide (48<=n/\n<=57)=M;have ret:∀(r:Bool)(U:St),r=M->bW (some (.bool r)) 0 (λr s=>r=.bool M/\s=[]) U:=λr U h=>by subst h;exact wR
 refine iW 0 func204 ntmps204 results204 λc hc hb=>zM ?_;simp[go_sem];refine yA (λq=>?_) (λq=>?_);.simp[go_sem,q];refine ret _ _ ?_;rw[<-hM];simp at q;exact decide_eq_decide.2 om
 .simp[go_sem,q];refine ret _ _ ?_;rw[<-hM];simp at q;exact(ahQ om).symm
theorem JY(c:UInt8):Pure prog 203 [.int .u8 c.toNat] (.bool (mL c)):=by
 have hg:=Nd c;unfold mL;revert hg;generalize(yT c).toNat=g;generalize c.toNat=n;generalize hM:(decide (65<=g/\g<=90)||decide (n=95))=M;have ret:∀(r:Bool)(U:St),r=M->bW (some (.bool r)) 0 (λr s=>r=.bool M/\s=[]) U:=λr U h=>by subst h;exact wR
 have aa:∀(a:Nat)(b:Bool),((a:Int)==95)=b->decide (a=95)=b:=λa b h=>by
  rw[<-h];by_cases q:a=95;.subst q;rfl
  .rw[ahQ q];exact(beq_eq_false_iff_ne.2 om).symm
 intro hg;refine iW 0 func203 ntmps203 results203 λc hc hb=>zM ?_;simp[go_sem];refine pC hg ?_;simp[go_sem];refine yA (λq=>?_) (λq=>?_)
 .simp[go_sem,q];refine pC hg ?_;simp[go_sem];simp at q;refine yA (λq2=>?_) (λq2=>?_)
  .have q3:¬g<=90:=by simp at q2;omega
   simp[go_sem,q2];exact ret _ _ (by rw[<-hM,ahQ (λh=>q3 h.2),Bf];exact(aa n _ rfl).symm)
  .have q3:g<=90:=by simp at q2;omega
   simp[go_sem,q2];exact ret _ _ (by rw[<-hM,ahR ⟨om,q3⟩];rfl)
 .have q3:¬65<=g:=by simp at q;omega
  simp[go_sem,q];exact ret _ _ (by rw[<-hM,ahQ (λh=>q3 h.1),Bf];exact(aa n _ rfl).symm)
def jq:List aij:=[[65,76,76],[65,78,68],[65,83],[65,83,67],[66,69,84,87,69,69,78],[66,79,85,78,68],[66,89],[67,79,85,78,84],[68,69,76,69,84,69],[68,69,83,67],[69,88,65,67,84],[70,65,76,83,69],[70,82,79,77],[73,78,83,69,82,84],[73,78,84,79],[73,83],[76,73,77,73,84],[78,79,84],[78,85,76,76],[78,79,87],[79,70],[79,82],[79,82,68,69,82],[83,69,76,69,67,84],[83,69,84],[83,85,77],[83,89,83,84,69,77],[84,73,77,69],[84,82,85,69],[85,80,68,65,84,69],[86,65,76,85,69,83],[87,72,69,82,69]]
theorem JZ:jq.length=32:=rfl
theorem ZX:Pure prog 249 [] (.sl .ro (jq.map λs=>[.str s])):=by refine iW 0 func249 ntmps249 results249 λc hc hb=>zM ?_;simp[go_sem];exact zV (qX (by simp[jq])) ⟨rfl,rfl⟩
def uP(c:UInt8):Bool:=(mL c||jN c)&&(yT c==c)
def jr(s:aij):Bool:=decide (1<=s.length/\s.length<=16)&&(!jN (s.headD 0)&&(s.all uP&&!jq.contains s))
theorem DW(s:aij)(hl:s.length<=maxLen):Pure prog 170 [.str s] (.bool (jr s)):=by
 generalize hM:jr s=M;unfold jr at hM;have ret:∀(r:Bool)(U:St),r=M->bW (some (.bool r)) 0 (λr s=>r=.bool M/\s=[]) U:=λr U h=>by subst h;exact wR
 refine iV 0 func170 ntmps170 results170 λc hc hb=>?_;refine zA ?_;simp[go_sem];by_cases h0:s.length=0;.have ae:((s.length:Int)==0)=true:=sU h0;simp[go_sem,ae];exact ret _ _ (by rw[<-hM,ahQ om];rfl)
 have ae:((s.length:Int)==0)=false:=sU h0;simp[go_sem,ae];by_cases ag:s.length<=16;rotate_left
 .have ad:decide (16<(s.length:Int))=true:=by simp;omega
  simp[go_sem,ad];exact ret _ _ (by rw[<-hM,ahQ om];rfl)
 have ad:decide (16<(s.length:Int))=false:=by simp;omega
 rw[ahR ⟨om,ag⟩,Ah]at hM;have hp:0<s.length:=om;obtain⟨c0,af⟩:∃c,s[0]=c:=⟨_,rfl⟩;have ah:s.headD 0=c0:=by rw[<-af];cases s with |nil=>simp at hp|cons x l=>rfl
 rw[ah]at hM;simp[go_sem,ad,hp,af];try(refine zF om ?_;simp[go_sem])
 refine pC (Hx c0) ?_;simp[go_sem];refine zO (λhd=>?_) (λhd=>?_);.simp[go_sem];exact ret _ _ (by rw[<-hM,hd];rfl)
 rw[hd,Bool.not_false,Ah]at hM;simp[go_sem];refine zG (S:=Nat) [0,3] (λi=>[.str s,.int .i64 i]) (λ_=>[]) (λi=>s.length-i) (λi=>i<=s.length/\(s.drop i).all uP=s.all uP) hc hb 0 ⟨A3 _,rfl⟩ ?_ ?_;.exact aO
 rintro i⟨hi,hinv⟩;refine zA ?_;simp[go_sem];refine zO (λq=>?_) (λq=>?_)
 .have q:i<s.length:=sU q;have ei:=zR q om;obtain⟨c1,aa⟩:∃c,s[i]=c:=⟨_,rfl⟩;rw[A2 q,Aq,aa]at hinv;have cK:uP c1=((mL c1||jN c1)&&(yT c1==c1)):=rfl;have g1:=JY c1;have g2:=Hx c1;have g3:=Nd c1;have ab:(((yT c1).toNat:Int)!=(c1.toNat:Int))=!(yT c1==c1):=by
   by_cases h:yT c1=c1;.rw[h];simp
   .have:¬(yT c1).toNat=c1.toNat:=λw=>h (E3.1 w);rw[beq_eq_false_iff_ne.2 h];simp;omega
  revert cK g1 g2 g3 ab;generalize mL c1=bl;generalize jN c1=bd;generalize ai:(yT c1==c1)=bg;generalize yT c1=cg;intro cK g1 g2 g3 ab;have bad:∀(b:Bool)(U:St),uP c1=false->bW (some (.bool false)) 0 (λr s=>r=.bool M/\s=[]) U:=λb U h=>ret _ _ (by rw[<-hM,<-hinv,h];rfl);have cN:uP c1=true->(s.drop (i+1)).all uP=s.all uP:=λh=>by rw[<-hinv,h,Ah]
  simp[go_sem];refine yB [(3,0),(9,0),(16,0)] 0 rfl kR kR ?_;simp[go_sem,q,aa];refine pD g1 ?_;simp[go_sem];refine(A1 bl).elim (λw=>?_) (λw=>?_)
  .simp[go_sem,w,q,aa];refine pD g3 ?_;simp[go_sem,q,aa];refine zO (λw3=>?_) (λw3=>?_);.simp[go_sem];exact bad true _ (by rw[cK,w];rw[ab]at w3;simpa using w3)
   .simp[go_sem,ei];exact zH (i+1) ⟨om,⟨q,cN (by rw[cK,w];rw[ab]at w3;simpa using w3)⟩,aO⟩
  .simp[go_sem,w,q,aa];refine pD g2 ?_;simp[go_sem];refine(A1 bd).elim (λw2=>?_) (λw2=>?_)
   .simp[go_sem,w2,q,aa];refine pD g3 ?_;simp[go_sem,q,aa];refine zO (λw3=>?_) (λw3=>?_);.simp[go_sem];exact bad true _ (by rw[cK,w,w2];rw[ab]at w3;simpa using w3)
    .simp[go_sem,ei];exact zH (i+1) ⟨om,⟨q,cN (by rw[cK,w,w2];rw[ab]at w3;simpa using w3)⟩,aO⟩
   .simp[go_sem,w2];exact bad true _ (by rw[cK,w,w2];rfl)
 .have q:i=s.length:=by have:¬i<s.length:=sU q;omega
  subst q;rw[B7,Cs]at hinv;rw[<-hinv,Ah]at hM;simp[go_sem];refine pC ZX ?_;simp[go_sem];refine zG (S:=Nat) [0,4,5] (λi=>[.str s,.sl .ro (jq.map λs=>[.str s]),.int .i64 i]) (λ_=>[]) (λi=>32-i) (λi=>i<=32/\(jq.drop i).contains s=jq.contains s) hc hb 0 ⟨A3 _,rfl⟩ ?_ ?_;.exact aO
  rintro i⟨hi,hinv⟩;refine zA ?_;simp[go_sem,JZ];refine zO (λq=>?_) (λq=>?_)
  .have q:i<32:=by simp at q;omega
   have q2:i<jq.length:=by rw[JZ];exact q
   have ei:=zR q om;obtain⟨x,hx⟩:=eX (jq[i]);rw[A2 q2,Di,hx]at hinv;simp[go_sem,JZ,q,hx];try(refine zF om ?_;simp[go_sem])
   refine zO (λw=>?_) (λw=>?_);.have w:x=s:=sU w;simp[go_sem];exact ret _ _ (by rw[<-hM,<-hinv,w];simp)
   .have w:¬x=s:=sU w;have w2:(s==x)=false:=beq_eq_false_iff_ne.2 λh=>w h.symm;rw[w2,Bf]at hinv;simp[go_sem,ei];exact zH (i+1) ⟨om,⟨q,hinv⟩,aO⟩
  .have q:i=32:=by simp at q;omega
   subst q;rw[Bj (by rw[JZ];exact A6 _)]at hinv;simp[go_sem];exact ret _ _ (by rw[<-hM,<-hinv];rfl)
structure bN where
 kind:Int
 place:Int
 s:aij
 n:Int deriving DecidableEq
@[go_sem]def bN.row(x:bN):List V:=[.int .i64 x.kind,.int .i64 x.place,.str x.s,.int .i64 x.n]
structure RS where
 at_:Nat
 bV:Int
 err:Int
 place:Int deriving DecidableEq
def rB(L:List bN)(s:RS):Ob:=.box [.sl .ro (L.map bN.row),.int .i64 (s.at_:Int),.int .i64 s.bV,.int .i64 s.err,.int .i64 s.place]
theorem J0(L:List bN)(s:RS)(n:Nat):bO n (rB L s)=true:=by rfl
def mc:bN:=⟨0,0,[],0⟩
def cw(L:List bN)(s:RS):bN:=L.getD s.at_ mc
def iC(e place:Int)(s:RS):RS:=if s.err=0then{s with err:=e,place:=place}else s
def zS (s:RS):RS:={s with at_:=s.at_+1}
def dt (s:RS):RS:={s with bV:=s.bV - 1}
def cV(L:List bN)(w:aij)(s:RS):Bool:=s.err==0&&(((cw L s).kind==1||(cw L s).kind==4)&&(cw L s).s==w)
def mM(L:List bN)(w:aij)(s:RS):RS:=if cV L w s=true then zS s else s
def yE(L:List bN)(w:aij)(s:RS):RS:=if cV L w s=true then zS s else iC 13 (cw L s).place s
def FO(L:List bN)(s:RS):Bool:=s.err==0&&((cw L s).kind==1&&jr (cw L s).s)
def xI(L:List bN)(s:RS):aij×RS:=if FO L s=true then((cw L s).s,zS s)else([],iC 13 (cw L s).place s)
def tG(L:List bN)(s:RS):Bool:=s.err==0&&(cw L s).kind==2
def gQ(L:List bN)(s:RS):Int×RS:=if tG L s=true then((cw L s).n,zS s)else(0,iC 13 (cw L s).place s)
def dV(L:List bN)(s:RS):List aij->aij |[]=>[]|w::ws=>if cV L w s=true then w else dV L s ws
def yX(L:List bN)(s:RS):RS:=if s.err=0/\s.bV+1>200then{s with bV:=s.bV+1,err:=3,place:=(cw L s).place}else{s with bV:=s.bV+1}
structure cZ(L:List bN)(s:RS):Prop where
 at_:s.at_<L.length
 bV:0<=s.bV/\s.bV<=100000
structure eL(L:List bN):Prop where len:L.length<=1000000last:∀i,L.length=i+1->(L.getD i mc).kind=0wu:∀t∈L,t.s.length<=maxLen
theorem eL.next{L:List bN}(h:eL L){s:RS}(hs:cZ L s)(hk:(cw L s).kind≠0):cZ L (zS s):=by
 refine⟨?_,hs.bV⟩;have h1:=hs.at_;rcases Ck (s.at_+1) L.length with h2|h2;.exact h2
 .exact absurd (h.last s.at_ om) hk
theorem ZY{L:List bN}{w:aij}{s:RS}(h:cV L w s):(cw L s).kind≠0/\s.err=0:=by simp_all[cV];omega
theorem nG(L:List bN)(hL:eL L)(s:RS)(hs:cZ L s):bL prog 76 [.ptr 0 0] [rB L s] (λr U=>r=.agg (cw L s).row/\U=[rB L s]):=by
 have h1:=hs.at_;have hl:=hL.len;obtain⟨t,ht⟩:=eX (L[s.at_]);have aa:cw L s=t:=by unfold cw;grind
 rw[aa];refine iW 1 func76 ntmps76 results76 λc hc hb=>zM ?_;simp[go_sem,rB];refine zW [(10,4)] 2 sm (by rfl) kR ?_;simp[go_sem,h1,ht];exact wC 1 rfl rfl rfl om (zD rfl) sm
theorem Hy{args:List V}{L:List bN}{s s':RS}{v:V}(hc:bL P f cc [rB L s] (λr U=>r=v/\U=[rB L s']))(hb:wQ P f)(aa:bM (cR (cO [0] (τ.length+1))) cc (args++bY))(hn:iH v)(hk:KV v (rB L s'::τ)):jE P c (.fn f bY) args (rB L s::τ) KV fx:=by
 refine pd 0 hc hb rfl (by rfl) aa (by grind[J0]) ?_;rintro r o2⟨rfl,h2⟩;obtain rfl:o2=rB L s':=by grind
 grind[DB]
theorem tH{n:Nat}{args:List V}{L:List bN}{s s':RS}{v:V}(hc:bL P f cc [rB L s] (λr U=>r=v/\U=[rB L s']))(hb:wQ P f)(aa:bM (cR (cO [0] (τ.length+1))) cc (args++bY))(hn:iH v)(hk:KV v (rB L s'::τ)):qN P c ⟨1,n,[],none⟩ 3 (.fn f bY) args (rB L s::τ) KV fx:=YI hc hb rfl (by rfl) (by rfl) aa hn hk
theorem wZ{N:Nat}{l l':List V}(h:bM (cR (cO [0] N)) l l'):bM (cR (cO [0] N)) (.ptr 0 0::l) (.ptr 0 0::l'):=⟨.inl rfl,h⟩
theorem fu{N:Nat}:bM (cR (cO [0] N)) [.ptr 0 0] [.ptr 0 0]:=wZ trivial
theorem pR{args:List V}{L:List bN}{s s':RS}{v:V}(hc:bL P f cc [rB L s] (λr U=>r=v/\U=[rB L s']))(hk:KV v (rB L s'::τ))(aa:bM (cR (cO [0] (τ.length+1))) cc (args++bY):=by first|exact fu|exact wZ (yC rfl)|exact wZ ⟨zP,yC rfl⟩|exact wZ ⟨zD rfl,zP,yC rfl⟩|exact wZ ⟨zP,zP,yC rfl⟩)(hb:wQ P f=true:=by kernel_rfl)(hn:iH v=true:=by rfl):jE P c (.fn f bY) args (rB L s::τ) KV fx:=Hy hc hb aa hn hk
theorem xR{R:V->St->Prop}{L:List bN}{s:RS}{v r:V}(hr:cR (cO (List.range 1) (rB L s::τ).length) r v)(hR:R r [rB L s]):bW (some v) 1 R (rB L s::τ):=wC 1 rfl rfl (by rfl) om hr hR
theorem js(L:List bN)(hL:eL L)(s:RS)(hs:cZ L s)(w:aij):bL prog 75 [.ptr 0 0,.str w] [rB L s] (λr U=>r=.bool (cV L w s)/\U=[rB L s]):=by
 have ht:=nG L hL s hs;have aa:(cw L s).s.length<=maxLen:=by unfold cw;rw[A9,A0 hs.at_];exact hL.wu _ sm
 generalize hM:cV L w s=M;unfold cV at hM;obtain⟨t,ab⟩:=eX (cw L s);rw[ab]at hM ht aa;have ret:∀(r:Bool)(τ:St),r=M->bW (some (.bool r)) 1 (λr U=>r=.bool M/\U=[rB L s]) (rB L s::τ):=λr τ h=>by subst h;exact xR (zD rfl) sm
 refine iW 1 func75 ntmps75 results75 λc hc hb=>zM ?_;simp[go_sem];refine pR ht ?_;simp[go_sem,rB];repeat'(first|(refine yA (λq=>?_) (λq=>?_)<;>simp[go_sem,q])|(refine zO (λq=>?_) (λq=>?_)<;>simp[go_sem,q]))
 all_goals exact ret _ _ (by rw[<-hM];simp_all)
theorem DX(L:List bN)(hL:eL L)(s:RS)(hs:cZ L s)(w:aij):bL prog 74 [.ptr 0 0,.str w] [rB L s] (λr U=>r=.bool (cV L w s)/\U=[rB L (mM L w s)]):=by
 have hi:=js L hL s hs w;have h1:=hs.at_;have hl:=hL.len;have ei:IntKind.i64.wrap ((s.at_:Int)+1)=((s.at_+1:Nat):Int):=by grind[bR]
 unfold mM;generalize cV L w s=b at hi;refine iW 1 func74 ntmps74 results74 λc hc hb=>zM ?_;simp[go_sem];refine pR hi ?_;simp[go_sem,rB];refine(A1 b).elim (λq=>?_) (λq=>?_);all_goals subst q
 all_goals simp[go_sem,ei]
 .exact xR (s:=zS s) (zD rfl) (by trivial)
 .exact xR (s:=s) (zD rfl) (by trivial)
theorem AU(L:List bN)(s:RS)(e p:Int):bL prog 79 [.ptr 0 0,.int .i64 e,.int .i64 p] [rB L s] (λr U=>r=.cm []/\U=[rB L (iC e p s)]):=by
 unfold iC;refine iW 1 func79 ntmps79 results79 λc hc hb=>zM ?_;simp[go_sem,rB];refine zO (λq=>?_) (λq=>?_)
 .have q:s.err=0:=by grind
  simp[go_sem,q];exact xR (s:={s with err:=e,place:=p}) (zD rfl) (by trivial)
 .have q:¬s.err=0:=by grind
  simp[go_sem,q];exact xR (s:=s) (zD rfl) (by trivial)
theorem lM(L:List bN)(hL:eL L)(s:RS)(hs:cZ L s)(w:aij):bL prog 77 [.ptr 0 0,.str w] [rB L s] (λr U=>r=.cm []/\U=[rB L (yE L w s)]):=by
 have he:=DX L hL s hs w;have ht:=nG L hL s hs;have hf:=AU L s 13 (cw L s).place;unfold mM at he;unfold yE;generalize cV L w s=b at he;refine iW 1 func77 ntmps77 results77 λc hc hb=>zM ?_;simp[go_sem];refine pR he ?_;simp[go_sem];refine(A1 b).elim (λq=>?_) (λq=>?_);all_goals subst q
 all_goals simp[go_sem]
 .exact xR (zD rfl) sm
 .refine pR ht ?_;simp[go_sem];refine pR hf ?_;simp[go_sem];exact xR (zD rfl) sm
theorem DY(L:List bN)(hL:eL L)(s:RS)(hs:cZ L s):bL prog 138 [.ptr 0 0] [rB L s] (λr U=>r=.str (xI L s).1/\U=[rB L (xI L s).2]):=by
 have ht:=nG L hL s hs;have hf:=AU L s 13 (cw L s).place;have ad:(cw L s).s.length<=maxLen:=by unfold cw;rw[A9,A0 hs.at_];exact hL.wu _ sm
 have hw:=DW (cw L s).s ad;have h1:=hs.at_;have hl:=hL.len;have ei:IntKind.i64.wrap ((s.at_:Int)+1)=((s.at_+1:Nat):Int):=by grind[bR]
 have ab:FO L s=false->xI L s=([],iC 13 (cw L s).place s):=λh=>by unfold xI;grind
 have aa:FO L s=true->xI L s=((cw L s).s,zS s):=λh=>by unfold xI;grind
 generalize xI L s=M at ab aa⊢;unfold FO at ab aa;obtain⟨t,ae⟩:=eX (cw L s);rw[ae]at ht hf hw ab aa;obtain⟨b,af⟩:=eX (jr t.s);rw[af]at hw ab aa;have key:((s.err==0&&(t.kind==1&&b))=false/\(s.err !=0)=true)\/((s.err==0&&(t.kind==1&&b))=false/\(s.err !=0)=false/\(t.kind !=1)=true)\/((s.err==0&&(t.kind==1&&b))=b/\(s.err !=0)=false/\(t.kind !=1)=false):=by grind
 have no:∀τ:St,M=([],iC 13 t.place s)->bW (some (.str [])) 1 (λr U=>r=.str M.1/\U=[rB L M.2]) (rB L (iC 13 t.place s)::τ):=λτ h=>by subst h;exact xR (zD rfl) sm
 refine iW 1 func138 ntmps138 results138 λc hc hb=>zM ?_;simp[go_sem];refine pR ht ?_;simp[go_sem,rB];refine key.elim (λ⟨q1,q2⟩=>?_) λkey=>key.elim (λ⟨q1,q2,q3⟩=>?_) λ⟨q1,q2,q3⟩=>?_;.simp[go_sem,q2];refine pR hf ?_;simp[go_sem];exact no _ (ab q1)
 .simp[go_sem,q2,q3];refine pR hf ?_;simp[go_sem];exact no _ (ab q1)
 .simp[go_sem,q2,q3];refine pC hw ?_;refine(A1 b).elim (λq=>?_) (λq=>?_);.have hM:=aa (q1.trans q);subst q;subst hM;simp[go_sem,ei];exact xR (s:=zS s) (zD rfl) (by trivial)
  .have hM:=ab (q1.trans q);subst q;simp[go_sem];refine pR hf ?_;simp[go_sem];exact no _ hM
theorem FP(L:List bN)(hL:eL L)(s:RS)(hs:cZ L s):bL prog 78 [.ptr 0 0] [rB L s] (λr U=>r=.int .i64 (gQ L s).1/\U=[rB L (gQ L s).2]):=by
 have ht:=nG L hL s hs;have hf:=AU L s 13 (cw L s).place;have h1:=hs.at_;have hl:=hL.len;have ei:IntKind.i64.wrap ((s.at_:Int)+1)=((s.at_+1:Nat):Int):=by grind[bR]
 have ab:tG L s=false->gQ L s=(0,iC 13 (cw L s).place s):=λh=>by unfold gQ;grind
 have aa:tG L s=true->gQ L s=((cw L s).n,zS s):=λh=>by unfold gQ;grind
 generalize gQ L s=M at ab aa⊢;unfold tG at ab aa;obtain⟨t,ad⟩:=eX (cw L s);rw[ad]at ht hf ab aa;have key:((s.err==0&&t.kind==2)=false/\(s.err !=0)=true)\/((s.err==0&&t.kind==2)=false/\(s.err !=0)=false/\(t.kind !=2)=true)\/((s.err==0&&t.kind==2)=true/\(s.err !=0)=false/\(t.kind !=2)=false):=by grind
 have no:∀τ:St,M=(0,iC 13 t.place s)->bW (some (.int .i64 0)) 1 (λr U=>r=.int .i64 M.1/\U=[rB L M.2]) (rB L (iC 13 t.place s)::τ):=λτ h=>by subst h;exact xR (zD rfl) sm
 refine iW 1 func78 ntmps78 results78 λc hc hb=>zM ?_;simp[go_sem];refine pR ht ?_;simp[go_sem,rB];refine key.elim (λ⟨q1,q2⟩=>?_) λkey=>key.elim (λ⟨q1,q2,q3⟩=>?_) λ⟨q1,q2,q3⟩=>?_;.simp[go_sem,q2];refine pR hf ?_;simp[go_sem];exact no _ (ab q1)
 .simp[go_sem,q2,q3];refine pR hf ?_;simp[go_sem];exact no _ (ab q1)
 .have hM:=aa q1;subst hM;simp[go_sem,q2,q3,ei];exact xR (s:=zS s) (zD rfl) (by trivial)
theorem AV(L:List bN)(hL:eL L)(s:RS)(hs:cZ L s)(ws:List aij)(hw:ws.length<=1000):bL prog 71 [.ptr 0 0,.sl .ro (ws.map λw=>[V.str w])] [rB L s] (λr U=>r=.str (dV L s ws)/\U=[rB L s]):=by
 generalize hM:dV L s ws=M;have ret:∀(r:aij)(τ:St),r=M->bW (some (.str r)) 1 (λr U=>r=.str M/\U=[rB L s]) (rB L s::τ):=λr τ h=>by subst h;exact xR (zD rfl) sm
 refine iV 1 func71 ntmps71 results71 λc hc hb=>?_;refine zA ?_;simp[go_sem];refine zG (S:=Nat) [0,1,5] (λi=>[.ptr 0 0,.sl .ro (ws.map λw=>[V.str w]),.int .i64 i]) (λ_=>[rB L s]) (λi=>ws.length-i) (λi=>i<=ws.length/\dV L s (ws.drop i)=M) hc hb 0 (by grind) ?_ ?_;.exact bT 1 (by rfl) rfl (by rfl) om (zC (by rfl) rfl)
 rintro i⟨hi,hinv⟩;by_cases q:i<ws.length;rotate_left;.rw[A4 om]at hinv;refine zA ?_;simp[go_sem,q];exact ret _ _ hinv
 have ei:=zR q om;obtain⟨w,hx⟩:=eX (ws[i]);rw[A2 q,hx,dV]at hinv;have aa:=js L hL s hs w;obtain⟨b,ab⟩:=eX (cV L w s);rw[ab]at aa hinv;refine zA ?_;simp[go_sem,q,hx];refine pR aa ?_;simp[go_sem];refine zO (λw1=>?_) (λw1=>?_);.rw[ahP w1]at hinv;simp[go_sem,q,hx];exact ret _ _ hinv
 .rw[ahO (by grind)]at hinv;simp[go_sem,ei];exact zH (i+1) ⟨om,(by grind),bT 1 rfl rfl (by rfl) om (zC (by rfl) rfl)⟩
theorem DZ(L:List bN)(hL:eL L)(s:RS)(hs:cZ L s)(ad:s.bV<=1000):bL prog 334 [.ptr 0 0] [rB L s] (λr U=>r=.bool ((yX L s).err==0)/\U=[rB L (yX L s)]):=by
 have ho:=hs.bV;have ht:=nG L hL {s with bV:=s.bV+1} ⟨hs.at_,by grind⟩;have e0:cw L {s with bV:=s.bV+1}=cw L s:=rfl;rw[e0]at ht;have hf:=AU L {s with bV:=s.bV+1} 3 (cw L s).place;have ei:IntKind.i64.wrap (s.bV+1)=s.bV+1:=by grind[bR]
 refine iW 1 func334 ntmps334 results334 λc hc hb=>zM ?_;simp[go_sem,rB,ei];by_cases q1:s.err=0
 .have aa:(s.err==0)=true:=by grind
  by_cases q2:s.bV+1>200
  .have ab:decide (200<s.bV+1)=true:=(by grind);have hS:yX L s=iC 3 (cw L s).place {s with bV:=s.bV+1}:=by simp_all[yX,iC]
   rw[hS];simp[go_sem,aa,ab];refine pR ht ?_;simp[go_sem];refine pR hf ?_;unfold iC;rw[ahP q1];simp[go_sem,rB];exact xR (L:=L) (s:={s with bV:=s.bV+1,err:=3,place:=(cw L s).place}) (zD rfl) (by trivial)
  .have ab:decide (200<s.bV+1)=false:=(by grind);have hS:yX L s={s with bV:=s.bV+1}:=by simp_all[yX]
   rw[hS];simp[go_sem,aa,ab];exact xR (L:=L) (s:={s with bV:=s.bV+1}) (zD rfl) (by trivial)
 .have aa:(s.err==0)=false:=by grind
  have hS:yX L s={s with bV:=s.bV+1}:=by simp_all[yX]
  rw[hS];simp[go_sem,aa];exact xR (L:=L) (s:={s with bV:=s.bV+1}) (zD rfl) (by trivial)
theorem RE:Pure prog 336 [] (.sl .ro [[.sl .ro [[.str [79,82]]]],[.sl .ro [[.str [65,78,68]]]]]):=by refine iW 0 func336 ntmps336 results336 λc hc hb=>zM ?_;simp[go_sem];exact zV zP sm
mutual
def xG:bG->Nat|.mk _ _ _ args=>xZ args+1def xZ:List bG->Nat |[]=>0|e::l=>max (xG e) (xZ l)end
variable{e:bG}{w:aij}{o:Int}{τ:St}{a:List bG}
theorem nH(e:bG):xG e=xZ e.args+1:=by cases e;rfl
theorem wF:∀(l:List bG)(e:bG),e∈l->xG e<=xZ l
 |[],_,h=>by grind|x::l,e,h=>by
  rw[xZ];rcases Ag.1 h with rfl|h;.omega
  .have:=wF l e h;omega
inductive eN:bG->Prop|mk(e:bG)(h:e.args.length<=1000000)(ha:∀x∈e.args,eN x):eN e
theorem eN.len(h:eN e):e.args.length<=1000000:=by cases h;omega
theorem eN.sub(h:eN e):∀x∈e.args,eN x:=by cases h;omega
def maxD(l:List bG)(d:Nat):Nat:=l.foldl (λd e=>max d (xG e)) d
theorem RF:∀(l:List bG)(d:Nat),maxD l d=max d (xZ l)
 |[],d=>by grind[maxD,xZ]|e::l,d=>by have:=RF l (max d (xG e));unfold maxD at this⊢;rw[Ap,this,xZ];omega
theorem RG:∀(n:Nat)(e:bG),xG e<=n->n<=1000000->eN e->Pure prog 356 [.agg e.row] (.int .i64 (xG e:Int))
 |0,e,h,_,_=>by grind[nH]|n+1,e,h,hn,hw=>by
  have ih:=RG n;have ae:=nH e;obtain⟨args,aa⟩:=eX e.args;have hlen:=hw.len;have ab:=hw.sub;rw[aa]at ae hlen ab;obtain⟨D,hD⟩:=eX (xG e);rw[hD]at ae h⊢;refine iV 0 func356 ntmps356 results356 λc hc hb=>?_;refine zA ?_;simp[go_sem];refine zG (S:=Nat×Nat) [1,3,4] (λu=>[.ptr 0 0,.int .i64 (u.2:Int),.int .i64 (u.1:Int)]) (λ_=>[.box e.row]) (λu=>args.length-u.1) (λu=>u.1<=args.length/\maxD (args.drop u.1) u.2=xZ args/\u.2<=n) hc hb (0,0) (by simp[RF]) ?_ ?_;.exact bT 1 sg rfl (by simp[bO,cH,cF,bG.bK]) om (zC (by rfl) rfl)
  rintro⟨i,d⟩⟨hi,hinv,ai⟩;simp only at hi hinv ai;by_cases q:i<args.length;rotate_left
  .rw[A4 om]at hinv;have ak:d=xZ args:=hinv;have ei:IntKind.i64.wrap ((d:Int)+1)=(D:Int):=by grind[bR]
   refine zA ?_;simp[go_sem,q,aa,ei];exact zV (zD rfl) sm
  have ei:=zR q om;obtain⟨x,hx⟩:=eX (args[i]);have af:x∈args:=(by grind);have aj:=wF args x af;rw[A2 q,hx]at hinv;have ag:=ih x om om (ab x af);have ad:maxD (args.drop (i+1)) (max d (xG x))=xZ args:=hinv;obtain⟨dx,ah⟩:=eX (xG x);rw[ah]at ag ad aj;refine zA ?_;simp[go_sem,q,aa,hx];refine zJ ag cB (zK sg (by rw[bG.bK];rfl)) rfl ?_;simp[go_sem,ei];refine zH (i+1,max d dx) ⟨om,(by grind),?_⟩;refine bT 1 (by simp[go_sem,aa]) rfl (by simp[bO,cH,cF,bG.bK]) om (zC ?_ rfl);simp[go_sem];omega
abbrev PR:=bG×RS
def dH:bG:= .mk 0 [] ⟨0,0,[]⟩ []
def qY(w:aij)(args:List bG):bG:=.mk 3 w ⟨0,0,[]⟩ args
def kn (v:bF):bG:= .mk 1 [] v []
def Ea(w:aij):bG:=.mk 2 w ⟨0,0,[]⟩ []
def nI(place:Int)(w:aij)(args:List bG)(s:RS):RS:=if s.err=0/\16<xG (qY w args)then iC 3 place s else s
def gY(place:Int)(w:aij)(args:List bG)(s:RS):PR:=(qY w args,nI place w args s)
def j4(L:List bN)(k:RS->PR)(s:RS):PR:=if(yX L s).err=0then((k (yX L s)).1,dt (k (yX L s)).2)else(dH,dt (yX L s))
def eR(L:List bN)(ws:List aij)(sub:RS->PR):Nat->PR->PR|0,x=>x|n+1,x=>if dV L x.2 ws=[]then x else eR L ws sub n (gY (cw L x.2).place (dV L x.2 ws) [x.1,(sub (zS x.2)).1] (sub (zS x.2)).2)
def qZ:aij:= [79,82]
def jO:aij:= [65,78,68]
def ko:aij:= [78,79,84]
def J1:aij:= [73,83]
def pg:aij:= [78,85,76,76]
def J2:aij:= [73,83,78,85,76,76]
def J3:aij:= [78,79,84,78,85,76,76]
def fL:List aij:=[[61],[60,62],[60],[60,61],[62],[62,61]]
def ph:List aij:= [[43],[45]]
def pj:List aij:= [[42],[47],[37]]
def nJ(L:List bN)(rn rc:RS->PR)(s:RS):PR:=if cV L ko s=true then gY (cw L s).place ko [(rn (zS s)).1] (rn (zS s)).2else rc s
def nK(L:List bN)(sub:RS->PR)(x:PR):PR:=if cV L J1 x.2=true then if cV L ko (zS x.2)=true then gY (cw L x.2).place J3 [x.1] (yE L pg (zS (zS x.2)))else gY (cw L x.2).place J2 [x.1] (yE L pg (zS x.2))else if dV L x.2 fL=[]then x else gY (cw L x.2).place (dV L x.2 fL) [x.1,(sub (zS x.2)).1] (sub (zS x.2)).2
def tI(L:List bN)(un ex:RS->PR)(s:RS):PR:=if cV L [45] s=true then gY (cw L s).place [78,69,71] [(un (zS s)).1] (un (zS s)).2else if cV L [40] s=true then((ex (zS s)).1,yE L [41] (ex (zS s)).2)else if cV L [84,82,85,69] s=true then(kn ⟨1,1,[]⟩,zS s)else if cV L [70,65,76,83,69] s=true then(kn ⟨1,0,[]⟩,zS s)else if cV L pg s=true then(kn ⟨0,0,[]⟩,zS s)else if(cw L s).kind=2then(kn ⟨2,(cw L s).n,[]⟩,zS s)else if(cw L s).kind=3then(kn ⟨3,0,(cw L s).s⟩,zS s)else(Ea (xI L s).1,(xI L s).2)
def kI(L:List bN)(rec:Nat->RS->PR):Nat->RS->PR |0,s=>eR L [qZ] (rec 1) L.length (rec 1 s)|1,s=>eR L [jO] (rec 2) L.length (rec 2 s)|2,s=>nJ L (rec 2) (rec 3) s|3,s=>nK L (rec 4) (rec 4 s)|4,s=>eR L ph (rec 5) L.length (rec 5 s)|5,s=>eR L pj (rec 6) L.length (rec 6 s)|_,s=>tI L (rec 6) (rec 0) s
def pF(L:List bN):Nat->Nat->RS->PR |0,_,s=>(dH,s)|f+1,w,s=>j4 L (kI L (pF L f) w) s
structure PI(L:List bN)(s:RS)(x:PR):Prop where
 ct:cZ L x.2bV:x.2.bV=s.bV
 up:s.at_<=x.2.at_
 err:x.2.err=0->s.err=0/\xG x.1<=16wide:eN x.1
theorem Eb{e p:Int}{s:RS}(he:e≠0):(iC e p s).err≠0:=by unfold iC;split<;>simp_all
theorem Hz(e p:Int)(s:RS):(iC e p s).at_=s.at_:=by unfold iC;split<;>rfl
theorem HA(e p:Int)(s:RS):(iC e p s).bV=s.bV:=by unfold iC;split<;>rfl
theorem Nf{L:List bN}{s:RS}(h:cZ L s)(e p:Int):cZ L (iC e p s):=⟨by rw[Hz];exact h.at_,by rw[HA];exact h.bV⟩
theorem Ec(p:Int)(w:aij)(a:List bG)(s:RS):(nI p w a s).at_=s.at_:=by unfold nI;split;exact Hz _ _ _;rfl
theorem J4(p:Int)(w:aij)(a:List bG)(s:RS):(nI p w a s).bV=s.bV:=by unfold nI;split;exact HA _ _ _;rfl
theorem Ng{p:Int}{s:RS}(h:(nI p w a s).err=0):s.err=0/\xG (qY w a)<=16:=by
 unfold nI at h;split at h;.exact absurd h (Eb dc)
 .rename_i hc;refine⟨h,?_⟩;by_cases q:16<xG (qY w a);.exact absurd ⟨h,q⟩ hc
  .omega
theorem ZZ{L:List bN}{s:RS}(h:cZ L s)(p:Int)(w:aij)(a:List bG):cZ L (nI p w a s):=⟨by rw[Ec];exact h.at_,by rw[J4];exact h.bV⟩
theorem RH(p:Int)(w:aij)(a:List bG)(s:RS):nI p w a (dt s)=dt (nI p w a s):=by
 unfold nI iC dt;by_cases q:s.err=0/\16<xG (qY w a);.rw[ahP q,ahP q,ahP q.1,ahP q.1]
 .rw[ahO q,ahO q]
theorem Z0(w:aij)(a:List bG):xG (qY w a)=xZ a+1:=nH _
theorem RI(h:a.length<=1000000)(ha:∀x∈a,eN x):eN (qY w a):=.mk _ h ha
theorem RJ(h:e.args=[]):eN e:=.mk _ (by simp[h]) (by simp[h])
def RR(L:List bN)(x:PR):V->St->Prop:=λr U=>r=.agg x.1.row/\U=[rB L x.2]
theorem wW{L:List bN}{s:RS}{x:PR}(h:x=(e,s)):bW (some (.agg [.int .i64 e.kind,.str e.s,.int .i64 e.v.kind,.int .i64 e.v.n,.str e.v.s,.sl .ro (e.args.map bG.row)])) 1 (RR L x) (rB L s::τ):=by subst h;exact xR (zD rfl) ⟨by rw[bG.bK],rfl⟩
theorem RL(e:bG):iH (.agg e.row)=true:=by rw[bG.bK];rfl
theorem j5{P:Program}{c:Ctx}{f:FuncId}{bY args cc:List V}{L:List bN}{s:RS}{x:PR}{KV:V->St->Prop}(hc:bL P f cc [rB L s] (RR L x))(hb:wQ P f)(aa:bM (cR (cO [0] (τ.length+1))) cc (args++bY))(hk:KV (.agg x.1.row) (rB L x.2::τ)):jE P c (.fn f bY) args (rB L s::τ) KV fx:=Hy hc hb aa (RL _) hk
theorem su{P:Program}{c:Ctx}{n:Nat}{f:FuncId}{bY args cc:List V}{L:List bN}{s:RS}{x:PR}{KV:V->St->Prop}(hc:bL P f cc [rB L s] (RR L x))(hb:wQ P f)(aa:bM (cR (cO [0] (τ.length+1))) cc (args++bY))(hk:KV (.agg x.1.row) (rB L x.2::τ)):qN P c ⟨1,n,[],none⟩ 3 (.fn f bY) args (rB L s::τ) KV fx:=tH hc hb aa (RL _) hk
theorem mN(L:List bN)(s:RS)(p:Int)(w:aij)(a:List bG)(hl:a.length<=1000)(hw:∀x∈a,eN x)(hd:s.err=0->xZ a<=1000):bL prog 337 [.ptr 0 0,.int .i64 p,.str w,.sl .ro (a.map bG.row)] [rB L s] (RR L (gY p w a s)):=by
 obtain⟨D,hD⟩:=eX (xG (qY w a));have ad:=Z0 w a;rw[hD]at ad;have hf:=AU L s 3 p;have hS:gY p w a s=(qY w a,if s.err=0/\16<D then iC 3 p s else s):=by unfold gY nI;rw[hD]
 generalize gY p w a s=M at hS⊢;refine iW 1 func337 ntmps337 results337 λc hc hb=>zM ?_;by_cases q1:s.err=0
 .have aa:(s.err==0)=true:=sU q1;have ae:=RG 1001 (qY w a) (by rw[hD,ad];have:=hd q1;omega) om (RI om hw);rw[hD]at ae;simp[go_sem,rB,aa];refine zJ ae cB (zK (by rw[bG.bK];rfl) rfl) rfl ?_;simp[go_sem];by_cases q2:16<D;.have ab:decide ((16:Int)<(D:Int))=true:=ahR om;rw[ahP ⟨q1,q2⟩]at hS;simp[go_sem,ab];refine pR hf ?_;simp[go_sem];exact wW hS
  .have ab:decide ((16:Int)<(D:Int))=false:=ahQ om;rw[ahO (λh=>q2 h.2)]at hS;simp[go_sem,ab];exact wW hS
 .have aa:(s.err==0)=false:=sU q1;rw[ahO (λh=>q1 h.1)]at hS;simp[go_sem,rB,aa];exact wW hS
variable {L:List bN}
theorem oG(s:RS):(zS s).at_=s.at_+1:=rfl
theorem Ed{s:RS}:∀{ws:List aij},dV L s ws≠[]->cV L (dV L s ws) s=true
 |[],h=>absurd rfl h|w::ws,h=>by
  unfold dV at h⊢;split;.assumption
  .rename_i hn;rw[ahO hn]at h;exact Ed h
theorem cZ.next(hL:eL L){s:RS}(h:cZ L s)(hi:cV L w s):cZ L (zS s):=hL.next h (ZY hi).1
theorem uQ(hL:eL L){s:RS}(h:cZ L s):cZ L (yE L w s):=by
 unfold yE;split;.exact h.next hL ‹_›
 .exact Nf h _ _
theorem Ee(w:aij)(s:RS):s.at_<=(yE L w s).at_:=by
 unfold yE;split;.simp[zS]
 .rw[Hz];exact A6 _
theorem Ef(w:aij)(s:RS):(yE L w s).bV=s.bV:=by
 unfold yE;split;.rfl
 .exact HA _ _ _
theorem wv{s:RS}(h:(yE L w s).err=0):s.err=0/\cV L w s=true:=by
 unfold yE at h;split at h;.exact⟨h,‹_›⟩
 .exact absurd h (Eb dc)
theorem RM(hL:eL L){s:RS}(h:cZ L s):cZ L (xI L s).2:=by
 unfold xI;split;.rename_i hb;unfold FO at hb;simp only[A8,ahX]at hb;exact hL.next h (by rw[hb.2.1];decide)
 .exact Nf h _ _
theorem RN(s:RS):s.at_<=(xI L s).2.at_:=by
 unfold xI;split;.simp[zS]
 .simp only[Hz];exact A6 _
theorem RO(s:RS):(xI L s).2.bV=s.bV:=by
 unfold xI;split;.rfl
 .exact HA _ _ _
theorem Nh{s:RS}(h:(xI L s).2.err=0):s.err=0/\FO L s=true:=by
 unfold xI at h;split at h;.exact⟨h,‹_›⟩
 .exact absurd h (Eb dc)
theorem Z1(h:e.args=[]):xG e=1:=by rw[nH,h];rfl
theorem uR{s0 s:RS}(p:Int)(w:aij)(h1:cZ L s)(h2:s.bV=s0.bV)(h3:s0.at_<=s.at_)(h4:s.err=0->s0.err=0)(h5:a.length<=1000000)(h6:∀x∈a,eN x):PI L s0 (gY p w a s):=⟨ZZ h1 _ _ _,by show(nI p w a s).bV=_;rw[J4,h2],by show _<=(nI p w a s).at_;rw[Ec];exact h3,λh=>⟨h4 (Ng h).1,(Ng h).2⟩,RI h5 h6⟩
theorem FQ(hL:eL L){o:Int}{sub:RS->PR}(aa:∀s,cZ L s->s.bV=o->PI L s (sub s))(ws:List aij){s0:RS}:∀(n:Nat)(x:PR),PI L s0 x->s0.bV=o->PI L s0 (eR L ws sub n x)
 |0,x,h,_=>h|n+1,x,h,ho=>by
  unfold eR;split;.exact h
  rename_i ab;have hi:=Ed ab;have hx:=h.bV;have hy:=aa (zS x.2) (h.ct.next hL hi) (by show x.2.bV=o;rw[hx,ho]);refine FQ hL aa ws n _ (uR _ _ hy.ct ?_ ?_ (λhe=>(h.err ?_).1) sm ?_) ho;.rw[hy.bV];exact hx
  .have h1:=hy.up;have h2:=h.up;rw[oG]at h1;omega
  .exact(hy.err he).1
  .intro e he;simp only[Ag,Bh,ai5]at he;rcases he with rfl|rfl;.exact h.wide
   .exact hy.wide
theorem Z2(hL:eL L){rn rc:RS->PR}(h1:∀s,cZ L s->s.bV=o->PI L s (rn s))(h2:∀s,cZ L s->s.bV=o->PI L s (rc s))(s:RS)(hs:cZ L s)(ho:s.bV=o):PI L s (nJ L rn rc s):=by
 unfold nJ;split
 .rename_i hi;have hy:=h1 (zS s) (hs.next hL hi) ho;refine uR _ _ hy.ct hy.bV ?_ (λhe=>(hy.err he).1) sm (λe he=>?_);.have h1:=hy.up;rw[oG]at h1;omega
  .simp only[Ag,Bh,ai5]at he;subst he;exact hy.wide
 .exact h2 s hs ho
theorem Z3(hL:eL L){sub:RS->PR}(aa:∀s,cZ L s->s.bV=o->PI L s (sub s))(s:RS)(ho:s.bV=o)(x:PR)(h:PI L s x):PI L s (nK L sub x):=by
 have hx:=h.bV;have hu:=h.up;have w1:∀e∈[x.1],eN e:=λe he=>by simp only[Ag,Bh,ai5]at he;subst he;exact h.wide
 unfold nK;split
 .rename_i hi;have hn:=h.ct.next hL hi;split
  .rename_i ab;have ad:=hn.next hL ab;refine uR _ _ (uQ hL ad) ?_ ?_ (λhe=>(h.err ?_).1) sm w1;.rw[Ef];exact hx
   .have:=Ee (L:=L) pg (zS (zS x.2));simp only[zS]at this⊢;omega
   .exact(wv he).1
  .refine uR _ _ (uQ hL hn) ?_ ?_ (λhe=>(h.err ?_).1) sm w1;.rw[Ef];exact hx
   .have:=Ee (L:=L) pg (zS x.2);simp only[zS]at this⊢;omega
   .exact(wv he).1
 .split;.exact h
  rename_i ae;have hi:=Ed ae;have hy:=aa (zS x.2) (h.ct.next hL hi) (by show x.2.bV=o;rw[hx,ho]);refine uR _ _ hy.ct ?_ ?_ (λhe=>(h.err ?_).1) sm ?_;.rw[hy.bV];exact hx
  .have h1:=hy.up;rw[oG]at h1;omega
  .exact(hy.err he).1
  .intro e he;simp only[Ag,Bh,ai5]at he;rcases he with rfl|rfl;.exact h.wide
   .exact hy.wide
theorem Eg{s:RS}(ha:e.args=[]){s2:RS}(h1:cZ L s2)(h2:s2.bV=s.bV)(h3:s.at_<=s2.at_)(h4:s2.err=0->s.err=0):PI L s (e,s2):=⟨h1,h2,h3,λh=>⟨h4 h,by simp only;rw[Z1 ha];decide⟩,RJ ha⟩
theorem RP(hL:eL L){un ex:RS->PR}(h1:∀s,cZ L s->s.bV=o->PI L s (un s))(h2:∀s,cZ L s->s.bV=o->PI L s (ex s))(s:RS)(hs:cZ L s)(ho:s.bV=o):PI L s (tI L un ex s):=by
 unfold tI;split
 .rename_i hi;have hy:=h1 (zS s) (hs.next hL hi) ho;refine uR _ _ hy.ct hy.bV ?_ (λhe=>(hy.err he).1) sm (λe he=>?_);.have h1:=hy.up;rw[oG]at h1;omega
  .simp only[Ag,Bh,ai5]at he;subst he;exact hy.wide
 split
 .rename_i hi;have hy:=h2 (zS s) (hs.next hL hi) ho;refine⟨uQ hL hy.ct,?_,?_,λhe=>?_,hy.wide⟩;.rw[Ef];exact hy.bV
  .have h1:=hy.up;have h2:=Ee (L:=L) [41] (ex (zS s)).2;rw[oG]at h1;show _<=(yE L [41] (ex (zS s)).2).at_;omega
  .have:=hy.err (wv he).1;exact this
 split;.exact Eg rfl (hs.next hL ‹_›) rfl (by simp[zS]) id
 split;.exact Eg rfl (hs.next hL ‹_›) rfl (by simp[zS]) id
 split;.exact Eg rfl (hs.next hL ‹_›) rfl (by simp[zS]) id
 split;.exact Eg rfl (hL.next hs om) rfl (by simp[zS]) id
 split;.exact Eg rfl (hL.next hs om) rfl (by simp[zS]) id
 .exact Eg rfl (RM hL hs) (RO s) (RN s) (λh=>(Nh h).1)
theorem Z4(hL:eL L){rec:Nat->RS->PR}(h:∀w s,cZ L s->s.bV=o->PI L s (rec w s)):∀(w:Nat)(s:RS),cZ L s->s.bV=o->PI L s (kI L rec w s) |0,s,hs,ho=>FQ hL (h 1) _ _ _ (h 1 s hs ho) ho|1,s,hs,ho=>FQ hL (h 2) _ _ _ (h 2 s hs ho) ho|2,s,hs,ho=>Z2 hL (h 2) (h 3) s hs ho|3,s,hs,ho=>Z3 hL (h 4) s ho _ (h 4 s hs ho)|4,s,hs,ho=>FQ hL (h 5) _ _ _ (h 5 s hs ho) ho|5,s,hs,ho=>FQ hL (h 6) _ _ _ (h 6 s hs ho) ho|_w+6,s,hs,ho=>RP hL (h 6) (h 0) s hs ho
theorem J5(s:RS):(yX L s).at_=s.at_:=by unfold yX;split<;>rfl
theorem q9(s:RS):(yX L s).bV=s.bV+1:=by unfold yX;split<;>rfl
theorem uS{s:RS}(h:(yX L s).err=0):s.err=0/\s.bV+1<=200:=by
 unfold yX at h;split at h;.simp at h
 .rename_i hc;refine⟨h,?_⟩;by_cases q:s.bV+1>200;.exact absurd ⟨h,q⟩ hc
  .omega
theorem uT{s:RS}(hs:cZ L s)(h:s.bV<=200):cZ L (yX L s):=⟨by rw[J5];exact hs.at_,by rw[q9];have:=hs.bV;omega⟩
theorem RQ{s:RS}(hs:cZ L s)(h:1<=s.bV):cZ L (dt s):=⟨hs.at_,by have:=hs.bV;simp only[dt];omega⟩
theorem Z5{k:RS->PR}(s:RS)(hs:cZ L s)(h2:s.bV<=200)(hk:(yX L s).err=0->PI L (yX L s) (k (yX L s))):PI L s (j4 L k s):=by
 have hr:=uT hs h2;have ho:=hs.bV;unfold j4;split;.rename_i he;have hy:=hk he;have h1:=hy.bV;have h3:=hy.up;rw[q9]at h1;rw[J5]at h3;refine⟨RQ hy.ct om,?_,h3,λh=>⟨(uS he).1,(hy.err h).2⟩,hy.wide⟩;simp only[dt];omega
 .rename_i he;refine Eg rfl (RQ hr (by rw[q9];omega)) ?_ ?_ (λh=>absurd h he);.simp only[dt,q9];omega
  .simp only[dt,J5];exact A6 _
theorem J6(hL:eL L):∀(f:Nat)(w:Nat)(s:RS),cZ L s->s.bV<=200->201<=(f:Int)+s.bV->PI L s (pF L f w s)
 |0,w,s,hs,h2,hf=>by omega|f+1,w,s,hs,h2,hf=>by unfold pF;refine Z5 s hs h2 (λhe=>?_);have h3:=(uS he).2;exact Z4 hL (o:=s.bV+1) (λw t ht ho=>J6 hL f w t ht om (by push_cast at hf;omega)) w _ (uT hs h2) (q9 s)
structure PW(L:List bN)(rec:Nat->RS->PR)(o:Int):Prop where ok:∀w s,cZ L s->s.bV=o->PI L s (rec w s)chain:∀k:Nat,k<=1->∀s,cZ L s->s.bV=o->bL prog 267 [.ptr 0 0,.int .i64 (k:Int)] [rB L s] (RR L (rec k s))not:∀s,cZ L s->s.bV=o->bL prog 355 [.ptr 0 0] [rB L s] (RR L (rec 2 s))cmp:∀s,cZ L s->s.bV=o->bL prog 364 [.ptr 0 0] [rB L s] (RR L (rec 3 s))sum:∀s,cZ L s->s.bV=o->bL prog 369 [.ptr 0 0] [rB L s] (RR L (rec 4 s))prod:∀s,cZ L s->s.bV=o->bL prog 372 [.ptr 0 0] [rB L s] (RR L (rec 5 s))unary:∀s,cZ L s->s.bV=o->bL prog 373 [.ptr 0 0] [rB L s] (RR L (rec 6 s))
theorem AW{g:Tag}{L:List bN}{s:RS}{x:PR}(h:x=(e,s)):bW (some (.agg [.int .i64 e.kind,.str e.s,.int .i64 e.v.kind,.int .i64 e.v.n,.str e.v.s,.sl g (e.args.map bG.row)])) 1 (RR L x) (rB L s::τ):=by subst h;refine xR (r:=.agg [.int .i64 e.kind,.str e.s,.int .i64 e.v.kind,.int .i64 e.v.n,.str e.v.s,.sl .ro (e.args.map bG.row)]) (uM ⟨zU rfl,zU rfl,zU rfl,zU rfl,zU rfl,yH,tV⟩) ⟨by rw[bG.bK],rfl⟩
def zB:Ob:=.box [.int .i64 0,.str [],.int .i64 0,.int .i64 0,.str [],.sl .full []]
theorem Eh(h0:0<=o)(h1:o<=1000):IntKind.i64.wrap (o-1)=o-1:=bR om om
theorem Z6(L:List bN)(hL:eL L)(rec:Nat->RS->PR)(s:RS)(hs:cZ L s)(h2:s.bV<=200)(aj:s.bV+1<=200->PW L rec (s.bV+1)):bL prog 369 [.ptr 0 0] [rB L s] (RR L (j4 L (kI L rec 4) s)):=by
 have hr:=DZ L hL s hs om;have aa:=uT hs h2;have ab:=q9 (L:=L) s;have ak:=uS (L:=L) (s:=s);have ho:=hs.bV;have hM:j4 L (kI L rec 4) s=if(yX L s).err=0then((eR L ph (rec 5) L.length (rec 5 (yX L s))).1,dt (eR L ph (rec 5) L.length (rec 5 (yX L s))).2)else(dH,dt (yX L s)):=rfl;generalize j4 L (kI L rec 4) s=M at hM⊢;generalize yX L s=s1 at hr aa ab ak hM;have eo:=Eh (o:=s1.bV) om om;refine iV 1 func369 ntmps369 results369 λc hc hb=>?_;by_cases q1:s1.err=0;rotate_left;.have af:(s1.err==0)=false:=sU q1;rw[ahO q1]at hM;rw[af]at hr;refine zA ?_;simp[go_sem];refine pR hr ?_;simp[go_sem,rB,eo];exact AW (e:=dH) (s:=dt s1) hM
 have af:(s1.err==0)=true:=sU q1;rw[ahP q1]at hM;rw[af]at hr;have hP:=aj (ak q1).2;have ag:=hP.ok 5 s1 aa ab;have al:=hP.prod s1 aa ab;generalize rec 5 s1=x0 at ag al hM;have ae:=AV L hL x0.2 ag.ct ph dc;obtain⟨N,hN⟩:=eX L.length;rw[hN]at hM;refine zA ?_;simp[go_sem];refine pR hr ?_;simp[go_sem];refine j5 al cB fu ?_;simp[go_sem];refine pR ae ?_;simp[go_sem];refine zG (S:=PR) [0,2,3,4] (λx=>[.ptr 0 0,.ptr 1 0,.ptr 2 0,.str (dV L x.2 ph)]) (λx=>[rB L x.2,zB,.box x.1.row]) (λx=>N-x.2.at_) (λx=>PI L s1 x/\∃n,N<=n+x.2.at_/\((eR L ph (rec 5) n x).1,dt (eR L ph (rec 5) n x).2)=M) hc hb x0 ⟨ag,N,om,hM.symm⟩ ?_ ?_;.exact bT 3 (by simp[go_sem,zB]) rfl (by simp[rB,zB,bO,cH,cF,bG.bK]) dc (zC sg rfl)
 rintro x⟨hx,n,hn,hinv⟩;have ax:=hx.ct.at_;have ae:=AV L hL x.2 hx.ct ph dc;have an:=nG L hL x.2 hx.ct;have ad:=hx.bV;by_cases q:dV L x.2 ph=[]
 .have au:M=(x.1,dt x.2):=by cases n with |zero=>exact hinv.symm|succ n=>rw[eR,ahP q]at hinv;exact hinv.symm
  have av:IntKind.i64.wrap (x.2.bV-1)=x.2.bV-1:=by rw[ad];exact eo
  refine zA ?_;simp[go_sem,q,rB,av];exact wW (s:=dt x.2) au
 obtain⟨n,rfl⟩:∃m,n=m+1:=⟨n-1,om⟩;rw[eR,ahO q]at hinv;have hi:=Ed q;have ao:=hx.ct.next hL hi;have hy:=hP.ok 5 (zS x.2) ao (by show x.2.bV=_;rw[ad,ab]);have aq:=hP.prod (zS x.2) ao (by show x.2.bV=_;rw[ad,ab]);generalize rec 5 (zS x.2)=y at hy aq hinv;have aw:=hy.up;rw[oG]at aw;have hz:PI L s1 (gY (cw L x.2).place (dV L x.2 ph) [x.1,y.1] y.2):=uR _ _ hy.ct (by rw[hy.bV];exact ad) (by have:=hx.up;omega) (λhe=>(hx.err (hy.err he).1).1) sm (λe he=>by
  simp only[Ag,Bh,ai5]at he;rcases he with rfl|rfl;.exact hx.wide
  .exact hy.wide);have ah:=mN L y.2 (cw L x.2).place (dV L x.2 ph) [x.1,y.1] sm (λe he=>by
  simp only[Ag,Bh,ai5]at he;rcases he with rfl|rfl;.exact hx.wide
  .exact hy.wide) (λhe=>by have h1:=(hy.err he).2;have h2:=(hx.err (hy.err he).1).2;simp only[xZ];omega);have ar:(gY (cw L x.2).place (dV L x.2 ph) [x.1,y.1] y.2).2.at_=y.2.at_:=Ec _ _ _ _;generalize gY (cw L x.2).place (dV L x.2 ph) [x.1,y.1] y.2=z at hz ah hinv ar;have ai:=AV L hL z.2 hz.ct ph dc;have ay:=hz.ct.at_;have hl:=hL.len;have ei:IntKind.i64.wrap ((x.2.at_:Int)+1)=((x.2.at_+1:Nat):Int):=by rw[bR om om];omega
 have q':(dV L x.2 ph).isEmpty=false:=sU q;refine zA ?_;simp[go_sem,q'];refine pR an ?_;simp[go_sem,rB,ei];simp only[Ad,Bp,bG.bK]at ah;refine pY [(3,1),(5,3),(7,3)] 1 3 sm kR kR ?_;simp[go_sem];refine su aq cB fu ?_;simp[go_sem,bG.bK];refine su ah cB (wZ ⟨zD rfl,zD rfl,zP,tV⟩) ?_;simp[go_sem,bG.bK];refine pR ai ?_;simp[go_sem];refine zH z ⟨om,⟨hz,n,om,hinv⟩,?_⟩;exact bT 3 (by simp[go_sem,rB,zB,bG.bK]) rfl (by simp[zB,bO,cH,cF,bG.bK]) dc (zC sg rfl)
theorem Z7(L:List bN)(hL:eL L)(rec:Nat->RS->PR)(s:RS)(hs:cZ L s)(h2:s.bV<=200)(aj:s.bV+1<=200->PW L rec (s.bV+1)):bL prog 372 [.ptr 0 0] [rB L s] (RR L (j4 L (kI L rec 5) s)):=by
 have hr:=DZ L hL s hs om;have aa:=uT hs h2;have ab:=q9 (L:=L) s;have ak:=uS (L:=L) (s:=s);have ho:=hs.bV;have hM:j4 L (kI L rec 5) s=if(yX L s).err=0then((eR L pj (rec 6) L.length (rec 6 (yX L s))).1,dt (eR L pj (rec 6) L.length (rec 6 (yX L s))).2)else(dH,dt (yX L s)):=rfl;generalize j4 L (kI L rec 5) s=M at hM⊢;generalize yX L s=s1 at hr aa ab ak hM;have eo:=Eh (o:=s1.bV) om om;refine iV 1 func372 ntmps372 results372 λc hc hb=>?_;by_cases q1:s1.err=0;rotate_left;.have af:(s1.err==0)=false:=sU q1;rw[ahO q1]at hM;rw[af]at hr;refine zA ?_;simp[go_sem];refine pR hr ?_;simp[go_sem,rB,eo];exact AW (e:=dH) (s:=dt s1) hM
 have af:(s1.err==0)=true:=sU q1;rw[ahP q1]at hM;rw[af]at hr;have hP:=aj (ak q1).2;have ag:=hP.ok 6 s1 aa ab;have al:=hP.unary s1 aa ab;generalize rec 6 s1=x0 at ag al hM;have ae:=AV L hL x0.2 ag.ct pj dc;obtain⟨N,hN⟩:=eX L.length;rw[hN]at hM;refine zA ?_;simp[go_sem];refine pR hr ?_;simp[go_sem];refine j5 al cB fu ?_;simp[go_sem];refine pR ae ?_;simp[go_sem];refine zG (S:=PR) [0,2,3,4] (λx=>[.ptr 0 0,.ptr 1 0,.ptr 2 0,.str (dV L x.2 pj)]) (λx=>[rB L x.2,zB,.box x.1.row]) (λx=>N-x.2.at_) (λx=>PI L s1 x/\∃n,N<=n+x.2.at_/\((eR L pj (rec 6) n x).1,dt (eR L pj (rec 6) n x).2)=M) hc hb x0 ⟨ag,N,om,hM.symm⟩ ?_ ?_;.exact bT 3 (by simp[go_sem,zB]) rfl (by simp[rB,zB,bO,cH,cF,bG.bK]) dc (zC sg rfl)
 rintro x⟨hx,n,hn,hinv⟩;have ax:=hx.ct.at_;have ae:=AV L hL x.2 hx.ct pj dc;have an:=nG L hL x.2 hx.ct;have ad:=hx.bV;by_cases q:dV L x.2 pj=[]
 .have au:M=(x.1,dt x.2):=by cases n with|zero=>exact hinv.symm|succ n=>rw[eR,ahP q]at hinv;exact hinv.symm
  have av:IntKind.i64.wrap (x.2.bV-1)=x.2.bV-1:=by rw[ad];exact eo
  refine zA ?_;simp[go_sem,q,rB,av];exact wW (s:=dt x.2) au
 obtain⟨n,rfl⟩:∃m,n=m+1:=⟨n-1,om⟩;rw[eR,ahO q]at hinv;have hi:=Ed q;have ao:=hx.ct.next hL hi;have hy:=hP.ok 6 (zS x.2) ao (by show x.2.bV=_;rw[ad,ab]);have aq:=hP.unary (zS x.2) ao (by show x.2.bV=_;rw[ad,ab]);generalize rec 6 (zS x.2)=y at hy aq hinv;have aw:=hy.up;rw[oG]at aw;have hz:PI L s1 (gY (cw L x.2).place (dV L x.2 pj) [x.1,y.1] y.2):=uR _ _ hy.ct (by rw[hy.bV];exact ad) (by have:=hx.up;omega) (λhe=>(hx.err (hy.err he).1).1) sm (λe he=>by
  simp only[Ag,Bh,ai5]at he;rcases he with rfl|rfl;.exact hx.wide
  .exact hy.wide);have ah:=mN L y.2 (cw L x.2).place (dV L x.2 pj) [x.1,y.1] sm (λe he=>by
  simp only[Ag,Bh,ai5]at he;rcases he with rfl|rfl;.exact hx.wide
  .exact hy.wide) (λhe=>by have h1:=(hy.err he).2;have h2:=(hx.err (hy.err he).1).2;simp only[xZ];omega);have ar:(gY (cw L x.2).place (dV L x.2 pj) [x.1,y.1] y.2).2.at_=y.2.at_:=Ec _ _ _ _;generalize gY (cw L x.2).place (dV L x.2 pj) [x.1,y.1] y.2=z at hz ah hinv ar;have ai:=AV L hL z.2 hz.ct pj dc;have ay:=hz.ct.at_;have hl:=hL.len;have ei:IntKind.i64.wrap ((x.2.at_:Int)+1)=((x.2.at_+1:Nat):Int):=by rw[bR om om];omega
 have q':(dV L x.2 pj).isEmpty=false:=sU q;refine zA ?_;simp[go_sem,q'];refine pR an ?_;simp[go_sem,rB,ei];simp only[Ad,Bp,bG.bK]at ah;refine pY [(3,1),(5,3),(7,3)] 1 3 sm kR kR ?_;simp[go_sem];refine su aq cB fu ?_;simp[go_sem,bG.bK];refine su ah cB (wZ ⟨zD rfl,zD rfl,zP,tV⟩) ?_;simp[go_sem,bG.bK];refine pR ai ?_;simp[go_sem];refine zH z ⟨om,⟨hz,n,om,hinv⟩,?_⟩;exact bT 3 (by simp[go_sem,rB,zB,bG.bK]) rfl (by simp[zB,bO,cH,cF,bG.bK]) dc (zC sg rfl)
theorem RU(L:List bN)(rec:Nat->RS->PR)(o:Int)(hP:PW L rec o)(s:RS)(hs:cZ L s)(ho:s.bV=o):bL prog 335 [.ptr 0 0,.int .i64 0] [rB L s] (RR L (rec 1 s)):=by have aa:=hP.chain 1 (A6 _) s hs ho;generalize rec 1 s=x at aa⊢;refine iW 1 func335 ntmps335 results335 λc hc hb=>zM ?_;simp[go_sem];refine j5 aa cB (wZ ⟨zD rfl,tV⟩) ?_;simp[go_sem,bG.bK];exact wW rfl
theorem RV(L:List bN)(rec:Nat->RS->PR)(o:Int)(hP:PW L rec o)(s:RS)(hs:cZ L s)(ho:s.bV=o):bL prog 335 [.ptr 0 0,.int .i64 1] [rB L s] (RR L (rec 2 s)):=by have aa:=hP.not s hs ho;generalize rec 2 s=x at aa⊢;refine iW 1 func335 ntmps335 results335 λc hc hb=>zM ?_;simp[go_sem];refine j5 aa cB fu ?_;simp[go_sem,bG.bK];exact wW rfl
theorem RW(L:List bN)(s:RS)(w:aij)(hw:w≠[]):(dV L s [w]=[]↔cV L w s=false)/\(cV L w s=true->dV L s [w]=w):=by
 unfold dV;cases cV L w s;.simp[dV]
 .simp[hw]
theorem Z8(L:List bN)(hL:eL L)(rec:Nat->RS->PR)(s:RS)(hs:cZ L s)(h2:s.bV<=200)(aj:s.bV+1<=200->PW L rec (s.bV+1)):bL prog 267 [.ptr 0 0,.int .i64 0] [rB L s] (RR L (j4 L (kI L rec 0) s)):=by
 have hr:=DZ L hL s hs om;have aa:=uT hs h2;have ab:=q9 (L:=L) s;have ak:=uS (L:=L) (s:=s);have ho:=hs.bV;have hM:j4 L (kI L rec 0) s=if(yX L s).err=0then((eR L [qZ] (rec 1) L.length (rec 1 (yX L s))).1,dt (eR L [qZ] (rec 1) L.length (rec 1 (yX L s))).2)else(dH,dt (yX L s)):=rfl;generalize j4 L (kI L rec 0) s=M at hM⊢;generalize yX L s=s1 at hr aa ab ak hM;have eo:=Eh (o:=s1.bV) om om;have ad:=RE;refine iV 1 func267 ntmps267 results267 λc hc hb=>?_;by_cases q1:s1.err=0;rotate_left;.have ah:(s1.err==0)=false:=sU q1;rw[ahO q1]at hM;rw[ah]at hr;refine zA ?_;simp[go_sem];refine pR hr ?_;simp[go_sem,rB,eo];exact AW (e:=dH) (s:=dt s1) hM
 have ah:(s1.err==0)=true:=sU q1;rw[ahP q1]at hM;rw[ah]at hr;have hP:=aj (ak q1).2;have al:=hP.ok 1 s1 aa ab;have an:=RU L rec _ hP s1 aa ab;generalize rec 1 s1=x0 at al an hM;obtain⟨N,hN⟩:=eX L.length;rw[hN]at hM;refine zA ?_;simp[go_sem];refine pR hr ?_;simp[go_sem];refine j5 an cB (wZ ⟨zD rfl,tV⟩) ?_;simp[go_sem];refine zG (S:=PR) [0,1,4,5] (λx=>[.ptr 0 0,.int .i64 0,.ptr 1 0,.ptr 2 0]) (λx=>[rB L x.2,zB,.box x.1.row]) (λx=>N-x.2.at_) (λx=>PI L s1 x/\∃n,N<=n+x.2.at_/\((eR L [qZ] (rec 1) n x).1,dt (eR L [qZ] (rec 1) n x).2)=M) hc hb x0 ⟨al,N,om,hM.symm⟩ ?_ ?_;.exact bT 3 (by simp[go_sem,zB]) rfl (by simp[rB,zB,bO,cH,cF,bG.bK]) dc (zC sg rfl)
 rintro x⟨hx,n,hn,hinv⟩;have a6:=hx.ct.at_;have ae:=js L hL x.2 hx.ct qZ;have ao:=nG L hL x.2 hx.ct;have af:=hx.bV;obtain⟨aw,ax⟩:=RW L x.2 qZ dc;by_cases q:cV L qZ x.2=false
 .rw[q]at ae;have ay:M=(x.1,dt x.2):=by cases n with |zero=>exact hinv.symm|succ n=>rw[eR,ahP (aw.2 q)]at hinv;exact hinv.symm
  have az:IntKind.i64.wrap (x.2.bV-1)=x.2.bV-1:=by rw[af];exact eo
  refine zA ?_;simp[go_sem];refine pC ad ?_;simp[go_sem];refine pR ae ?_;simp[go_sem,rB,az];exact wW (s:=dt x.2) ay
 have q:cV L qZ x.2:=sU q;rw[q]at ae;obtain⟨n,rfl⟩:∃m,n=m+1:=⟨n-1,om⟩;have ag:=ax q;rw[eR,ahO (by rw[ag];decide),ag]at hinv;have aq:=hx.ct.next hL q;have hy:=hP.ok 1 (zS x.2) aq (by show x.2.bV=_;rw[af,ab]);have ar:=RU L rec _ hP (zS x.2) aq (by show x.2.bV=_;rw[af,ab]);generalize rec 1 (zS x.2)=y at hy ar hinv;have a1:=hy.up;rw[oG]at a1;have au:∀e∈[x.1,y.1],eN e:=λe he=>by
  simp only[Ag,Bh,ai5]at he;rcases he with rfl|rfl;.exact hx.wide
  .exact hy.wide
 have hz:PI L s1 (gY (cw L x.2).place qZ [x.1,y.1] y.2):=uR _ _ hy.ct (by rw[hy.bV];exact af) (by have:=hx.up;omega) (λhe=>(hx.err (hy.err he).1).1) sm au;have ai:=mN L y.2 (cw L x.2).place qZ [x.1,y.1] sm au (λhe=>by have h1:=(hy.err he).2;have h2:=(hx.err (hy.err he).1).2;simp only[xZ];omega);have av:(gY (cw L x.2).place qZ [x.1,y.1] y.2).2.at_=y.2.at_:=Ec _ _ _ _;generalize gY (cw L x.2).place qZ [x.1,y.1] y.2=z at hz ai hinv av;have a7:=hz.ct.at_;have hl:=hL.len;have ei:IntKind.i64.wrap ((x.2.at_:Int)+1)=((x.2.at_+1:Nat):Int):=by rw[bR om om];omega
 simp only[Ad,Bp,bG.bK]at ai;refine zA ?_;simp[go_sem];refine pC ad ?_;simp[go_sem];refine pR ae ?_;simp[go_sem];refine pR ao ?_;simp[go_sem,rB,ei];refine pY [(2,0),(11,3),(13,3)] 1 3 sm kR kR ?_;simp[go_sem];refine pD ad ?_;simp[go_sem];refine su ar cB (wZ ⟨zD rfl,tV⟩) ?_;simp[go_sem,bG.bK];refine su ai cB (wZ ⟨zD rfl,zD rfl,zP,tV⟩) ?_;simp[go_sem,bG.bK];refine zH z ⟨om,⟨hz,n,om,hinv⟩,?_⟩;exact bT 3 (by simp[go_sem,rB,zB,bG.bK]) rfl (by simp[zB,bO,cH,cF,bG.bK]) dc (zC sg rfl)
theorem Z9(L:List bN)(hL:eL L)(rec:Nat->RS->PR)(s:RS)(hs:cZ L s)(h2:s.bV<=200)(aj:s.bV+1<=200->PW L rec (s.bV+1)):bL prog 267 [.ptr 0 0,.int .i64 1] [rB L s] (RR L (j4 L (kI L rec 1) s)):=by
 have hr:=DZ L hL s hs om;have aa:=uT hs h2;have ab:=q9 (L:=L) s;have ak:=uS (L:=L) (s:=s);have ho:=hs.bV;have hM:j4 L (kI L rec 1) s=if(yX L s).err=0then((eR L [jO] (rec 2) L.length (rec 2 (yX L s))).1,dt (eR L [jO] (rec 2) L.length (rec 2 (yX L s))).2)else(dH,dt (yX L s)):=rfl;generalize j4 L (kI L rec 1) s=M at hM⊢;generalize yX L s=s1 at hr aa ab ak hM;have eo:=Eh (o:=s1.bV) om om;have ad:=RE;refine iV 1 func267 ntmps267 results267 λc hc hb=>?_;by_cases q1:s1.err=0;rotate_left;.have ah:(s1.err==0)=false:=sU q1;rw[ahO q1]at hM;rw[ah]at hr;refine zA ?_;simp[go_sem];refine pR hr ?_;simp[go_sem,rB,eo];exact AW (e:=dH) (s:=dt s1) hM
 have ah:(s1.err==0)=true:=sU q1;rw[ahP q1]at hM;rw[ah]at hr;have hP:=aj (ak q1).2;have al:=hP.ok 2 s1 aa ab;have an:=RV L rec _ hP s1 aa ab;generalize rec 2 s1=x0 at al an hM;obtain⟨N,hN⟩:=eX L.length;rw[hN]at hM;refine zA ?_;simp[go_sem];refine pR hr ?_;simp[go_sem];refine j5 an cB (wZ ⟨zD rfl,tV⟩) ?_;simp[go_sem];refine zG (S:=PR) [0,1,4,5] (λx=>[.ptr 0 0,.int .i64 1,.ptr 1 0,.ptr 2 0]) (λx=>[rB L x.2,zB,.box x.1.row]) (λx=>N-x.2.at_) (λx=>PI L s1 x/\∃n,N<=n+x.2.at_/\((eR L [jO] (rec 2) n x).1,dt (eR L [jO] (rec 2) n x).2)=M) hc hb x0 ⟨al,N,om,hM.symm⟩ ?_ ?_;.exact bT 3 (by simp[go_sem,zB]) rfl (by simp[rB,zB,bO,cH,cF,bG.bK]) dc (zC sg rfl)
 rintro x⟨hx,n,hn,hinv⟩;have a6:=hx.ct.at_;have ae:=js L hL x.2 hx.ct jO;have ao:=nG L hL x.2 hx.ct;have af:=hx.bV;obtain⟨aw,ax⟩:=RW L x.2 jO dc;by_cases q:cV L jO x.2=false
 .rw[q]at ae;have ay:M=(x.1,dt x.2):=by cases n with|zero=>exact hinv.symm|succ n=>rw[eR,ahP (aw.2 q)]at hinv;exact hinv.symm
  have az:IntKind.i64.wrap (x.2.bV-1)=x.2.bV-1:=by rw[af];exact eo
  refine zA ?_;simp[go_sem];refine pC ad ?_;simp[go_sem];refine pR ae ?_;simp[go_sem,rB,az];exact wW (s:=dt x.2) ay
 have q:cV L jO x.2:=sU q;rw[q]at ae;obtain⟨n,rfl⟩:∃m,n=m+1:=⟨n-1,om⟩;have ag:=ax q;rw[eR,ahO (by rw[ag];decide),ag]at hinv;have aq:=hx.ct.next hL q;have hy:=hP.ok 2 (zS x.2) aq (by show x.2.bV=_;rw[af,ab]);have ar:=RV L rec _ hP (zS x.2) aq (by show x.2.bV=_;rw[af,ab]);generalize rec 2 (zS x.2)=y at hy ar hinv;have a1:=hy.up;rw[oG]at a1;have au:∀e∈[x.1,y.1],eN e:=λe he=>by
  simp only[Ag,Bh,ai5]at he;rcases he with rfl|rfl;.exact hx.wide
  .exact hy.wide
 have hz:PI L s1 (gY (cw L x.2).place jO [x.1,y.1] y.2):=uR _ _ hy.ct (by rw[hy.bV];exact af) (by have:=hx.up;omega) (λhe=>(hx.err (hy.err he).1).1) sm au;have ai:=mN L y.2 (cw L x.2).place jO [x.1,y.1] sm au (λhe=>by have h1:=(hy.err he).2;have h2:=(hx.err (hy.err he).1).2;simp only[xZ];omega);have av:(gY (cw L x.2).place jO [x.1,y.1] y.2).2.at_=y.2.at_:=Ec _ _ _ _;generalize gY (cw L x.2).place jO [x.1,y.1] y.2=z at hz ai hinv av;have a7:=hz.ct.at_;have hl:=hL.len;have ei:IntKind.i64.wrap ((x.2.at_:Int)+1)=((x.2.at_+1:Nat):Int):=by rw[bR om om];omega
 simp only[Ad,Bp,bG.bK]at ai;refine zA ?_;simp[go_sem];refine pC ad ?_;simp[go_sem];refine pR ae ?_;simp[go_sem];refine pR ao ?_;simp[go_sem,rB,ei];refine pY [(2,0),(11,3),(13,3)] 1 3 sm kR kR ?_;simp[go_sem];refine pD ad ?_;simp[go_sem];refine su ar cB (wZ ⟨zD rfl,tV⟩) ?_;simp[go_sem,bG.bK];refine su ai cB (wZ ⟨zD rfl,zD rfl,zP,tV⟩) ?_;simp[go_sem,bG.bK];refine zH z ⟨om,⟨hz,n,om,hinv⟩,?_⟩;exact bT 3 (by simp[go_sem,rB,zB,bG.bK]) rfl (by simp[zB,bO,cH,cF,bG.bK]) dc (zC sg rfl)
theorem J7{x:bG}(h:eN x):∀e∈[x],eN e:=λe he=>by simp only[Ag,Bh,ai5]at he;subst he;exact h
theorem ws0{x y:bG}(h:eN x)(h2:eN y):∀e∈[x,y],eN e:=λe he=>by
 simp only[Ag,Bh,ai5]at he;rcases he with rfl|rfl;.exact h
 .exact h2
theorem wu3(L:List bN)(hL:eL L)(rec:Nat->RS->PR)(s:RS)(hs:cZ L s)(h2:s.bV<=200)(aj:s.bV+1<=200->PW L rec (s.bV+1)):bL prog 355 [.ptr 0 0] [rB L s] (RR L (j4 L (kI L rec 2) s)):=by
 have hr:=DZ L hL s hs om;have aa:=uT hs h2;have ad:=q9 (L:=L) s;have ak:=uS (L:=L) (s:=s);have ho:=hs.bV;have hM:j4 L (kI L rec 2) s=if(yX L s).err=0then((nJ L (rec 2) (rec 3) (yX L s)).1,dt (nJ L (rec 2) (rec 3) (yX L s)).2)else(dH,dt (yX L s)):=rfl;generalize j4 L (kI L rec 2) s=M at hM⊢;generalize yX L s=s1 at hr aa ad ak hM;have eo:=Eh (o:=s1.bV) om om;refine iW 1 func355 ntmps355 results355 λc hc hb=>zM ?_;by_cases q1:s1.err=0;rotate_left;.have ag:(s1.err==0)=false:=sU q1;rw[ahO q1]at hM;rw[ag]at hr;simp[go_sem];refine pR hr ?_;simp[go_sem,rB,eo];exact AW (e:=dH) (s:=dt s1) hM
 have ag:(s1.err==0)=true:=sU q1;rw[ahP q1]at hM;rw[ag]at hr;have hP:=aj (ak q1).2;have af:=nG L hL s1 aa;have ab:=DX L hL s1 aa ko;unfold nJ at hM;unfold mM at ab;by_cases q:cV L ko s1=true
 .rw[ahP q]at hM;rw[ahP q,q]at ab;have al:=aa.next hL q;have hy:=hP.ok 2 (zS s1) al ad;have ae:=hP.not (zS s1) al ad;generalize rec 2 (zS s1)=y at hy ae hM;have ah:=mN L y.2 (cw L s1).place ko [y.1] sm (J7 hy.wide) (λhe=>by have h1:=(hy.err he).2;simp only[xZ];omega);have an:(gY (cw L s1).place ko [y.1] y.2).2.bV=s1.bV:=by show(nI _ _ _ y.2).bV=_;rw[J4,hy.bV];rfl
  generalize gY (cw L s1).place ko [y.1] y.2=z at ah hM an;have ai:IntKind.i64.wrap (z.2.bV-1)=z.2.bV-1:=by rw[an];exact eo
  simp only[Ad,Bp,bG.bK]at ah;simp[go_sem];refine pR hr ?_;simp[go_sem];refine pR af ?_;simp[go_sem];refine pR ab ?_;simp[go_sem];refine j5 ae cB fu ?_;simp[go_sem,bG.bK];refine j5 ah cB (wZ ⟨zD rfl,zD rfl,zP,tV⟩) ?_;simp[go_sem,rB,bG.bK,ai];exact wW (s:=dt z.2) hM
 .have q:cV L ko s1=false:=sU q;rw[ahO (by rw[q];decide)]at hM;rw[ahO (by rw[q];decide),q]at ab;have hy:=hP.ok 3 s1 aa ad;have ae:=hP.cmp s1 aa ad;generalize rec 3 s1=z at hy ae hM;have ai:IntKind.i64.wrap (z.2.bV-1)=z.2.bV-1:=by rw[hy.bV];exact eo
  simp[go_sem];refine pR hr ?_;simp[go_sem];refine pR af ?_;simp[go_sem];refine pR ab ?_;simp[go_sem];refine j5 ae cB fu ?_;simp[go_sem,rB,bG.bK,ai];exact wW (s:=dt z.2) hM
theorem xE6(L:List bN)(s:RS)(w:aij)(ws:List aij)(h:cV L w s):dV L s (w::ws)=w:=by unfold dV;rw[ahP h]
theorem xu3(L:List bN)(s:RS)(w:aij)(ws:List aij)(h:cV L w s=false):dV L s (w::ws)=dV L s ws:=by unfold dV;rw[ahO (by rw[h];decide)];cases ws<;>rfl
theorem xB8: ∀w∈fL,w≠ []:=dc
theorem wt3(L:List bN)(hL:eL L)(rec:Nat->RS->PR)(s:RS)(hs:cZ L s)(h2:s.bV<=200)(ax:s.bV+1<=200->PW L rec (s.bV+1)):bL prog 364 [.ptr 0 0] [rB L s] (RR L (j4 L (kI L rec 3) s)):=by
 have hr:=DZ L hL s hs om;have ah:=uT hs h2;have ai:=q9 (L:=L) s;have ay:=uS (L:=L) (s:=s);have ho:=hs.bV;have hM:j4 L (kI L rec 3) s=if(yX L s).err=0then((nK L (rec 4) (rec 4 (yX L s))).1,dt (nK L (rec 4) (rec 4 (yX L s))).2)else(dH,dt (yX L s)):=rfl;generalize j4 L (kI L rec 3) s=M at hM⊢;generalize yX L s=s1 at hr ah ai ay hM;have eo:=Eh (o:=s1.bV) om om;refine iV 1 func364 ntmps364 results364 λc hc hb=>?_;by_cases q1:s1.err=0;rotate_left;.have av:(s1.err==0)=false:=sU q1;rw[ahO q1]at hM;rw[av]at hr;refine zA ?_;simp[go_sem];refine pR hr ?_;simp[go_sem,rB,eo];exact AW (e:=dH) (s:=dt s1) hM
 have av:(s1.err==0)=true:=sU q1;rw[ahP q1]at hM;rw[av]at hr;have hP:=ax (ay q1).2;have hx:=hP.ok 4 s1 ah ai;have ar:=hP.sum s1 ah ai;generalize rec 4 s1=x at hx ar hM;have aj:=nG L hL x.2 hx.ct;have aa:=DX L hL x.2 hx.ct J1;have af:=hx.bV;unfold nK at hM;unfold mM at aa;by_cases q:cV L J1 x.2=true
 .rw[ahP q]at hM;rw[ahP q,q]at aa;have ag:=hx.ct.next hL q;have ab:=DX L hL (zS x.2) ag ko;unfold mM at ab;by_cases q2:cV L ko (zS x.2)=true
  .rw[ahP q2]at hM;rw[ahP q2,q2]at ab;have a7:=ag.next hL q2;have ak:=lM L hL _ a7 pg;have al:=Ef (L:=L) pg (zS (zS x.2));have an:=wv (L:=L) (w:=pg) (s:=zS (zS x.2));generalize yE L pg (zS (zS x.2))=u at ak al an hM;have aw:u.bV=s1.bV:=by rw[al];exact af
   have ae:IntKind.i64.wrap (u.bV-1)=u.bV-1:=by rw[aw];exact eo
   have ad:=mN L (dt u) (cw L x.2).place J3 [x.1] sm (J7 hx.wide) (λhe=>by have h1:=(hx.err (an he).1).2;simp only[xZ];omega);have ao:M=gY (cw L x.2).place J3 [x.1] (dt u):=by rw[hM];unfold gY;rw[RH]
   clear hM;generalize gY (cw L x.2).place J3 [x.1] (dt u)=z at ad ao;simp only[Ad,Bp,bG.bK]at ad;refine zA ?_;simp[go_sem];refine pR hr ?_;simp[go_sem];refine j5 ar cB fu ?_;simp[go_sem,bG.bK];refine pR aj ?_;simp[go_sem];refine pR aa ?_;simp[go_sem];refine pR ab ?_;simp[go_sem];refine pR ak ?_;simp[go_sem,rB,ae];refine j5 (s:=dt u) ad cB (wZ ⟨zD rfl,zD rfl,zP,tV⟩) ?_;simp[go_sem,bG.bK];exact wW ao
  .have q2:cV L ko (zS x.2)=false:=sU q2;rw[ahO (by rw[q2];decide)]at hM;rw[ahO (by rw[q2];decide),q2]at ab;have ak:=lM L hL _ ag pg;have al:=Ef (L:=L) pg (zS x.2);have an:=wv (L:=L) (w:=pg) (s:=zS x.2);generalize yE L pg (zS x.2)=u at ak al an hM;have aw:u.bV=s1.bV:=by rw[al];exact af
   have ae:IntKind.i64.wrap (u.bV-1)=u.bV-1:=by rw[aw];exact eo
   have ad:=mN L (dt u) (cw L x.2).place J2 [x.1] sm (J7 hx.wide) (λhe=>by have h1:=(hx.err (an he).1).2;simp only[xZ];omega);have ao:M=gY (cw L x.2).place J2 [x.1] (dt u):=by rw[hM];unfold gY;rw[RH]
   clear hM;generalize gY (cw L x.2).place J2 [x.1] (dt u)=z at ad ao;simp only[Ad,Bp,bG.bK]at ad;refine zA ?_;simp[go_sem];refine pR hr ?_;simp[go_sem];refine j5 ar cB fu ?_;simp[go_sem,bG.bK];refine pR aj ?_;simp[go_sem];refine pR aa ?_;simp[go_sem];refine pR ab ?_;simp[go_sem];refine pR ak ?_;simp[go_sem,rB,ae];refine j5 (s:=dt u) ad cB (wZ ⟨zD rfl,zD rfl,zP,tV⟩) ?_;simp[go_sem,bG.bK];exact wW ao
 have q:cV L J1 x.2=false:=sU q;rw[ahO (by rw[q];decide)]at hM;rw[ahO (by rw[q];decide),q]at aa;refine zA ?_;simp[go_sem];refine pR hr ?_;simp[go_sem];refine j5 ar cB fu ?_;simp[go_sem,bG.bK];refine pR aj ?_;simp[go_sem];refine pR aa ?_;simp[go_sem];refine zG (S:=Nat) [0,2,3,4,5,7] (λi=>[.ptr 0 0,.ptr 1 0,.ptr 2 0,.int .i64 (cw L x.2).place,.sl .ro (fL.map λw=>[V.str w]),.int .i64 (i:Int)]) (λ_=>[rB L x.2,zB,.box x.1.row]) (λi=>6-i) (λi=>i<=6/\dV L x.2 (fL.drop i)=dV L x.2 fL) hc hb 0 ⟨A3 _,rfl⟩ ?_ ?_;.exact bT 3 (by simp[go_sem,zB,bG.bK]) rfl (by simp[rB,zB,bO,cH,cF,bG.bK]) dc ⟨o7 (by rfl),o7 (by rfl),o7 (by rfl),zD rfl,zP,zD rfl,tV⟩
 rintro i⟨hi,hinv⟩;by_cases qi:i<6;rotate_left
 .obtain rfl:i=6:=om;have ha:dV L x.2 fL=[]:=by rw[<-hinv];rfl
  rw[ahP ha]at hM;have ae:IntKind.i64.wrap (x.2.bV-1)=x.2.bV-1:=by rw[af];exact eo
  refine zA ?_;simp[go_sem,fL,rB,ae,bG.bK];exact wW (s:=dt x.2) hM
 have aq:i<fL.length:=qi;obtain⟨w,hw⟩:=eX (fL[i]);have a8:w∈fL:=hw▸A7 aq;have aA:=xB8 w a8;rw[A2 aq,hw]at hinv;have aa:=DX L hL x.2 hx.ct w;unfold mM at aa;have az:decide ((i:Int)<6)=true:=ahR om;have ei:=zR qi dc;have au:(fL.length:Int)=6:=rfl;by_cases qw:cV L w x.2=true;rotate_left;.have qw:cV L w x.2=false:=sU qw;rw[xu3 L x.2 w _ qw]at hinv;rw[ahO (by rw[qw];decide),qw]at aa;refine zA ?_;simp[go_sem,au,az,aq,hw];refine zF om ?_;simp[go_sem];refine pR aa ?_;simp[go_sem,ei];refine zH (i+1) ⟨om,⟨om,hinv⟩,?_⟩;exact bT 3 (by simp[go_sem,rB,zB,bG.bK]) rfl (by simp[rB,zB,bO,cH,cF,bG.bK]) dc (zC sg rfl)
 rw[xE6 L x.2 w _ qw]at hinv;rw[ahO (by rw[<-hinv];exact aA),<-hinv]at hM;rw[ahP qw,qw]at aa;have ag:=hx.ct.next hL qw;have hy:=hP.ok 4 (zS x.2) ag (by show x.2.bV=_;rw[af,ai]);have a1:=hP.sum (zS x.2) ag (by show x.2.bV=_;rw[af,ai]);generalize rec 4 (zS x.2)=y at hy a1 hM;have ad:=mN L y.2 (cw L x.2).place w [x.1,y.1] sm (ws0 hx.wide hy.wide) (λhe=>by have h1:=(hy.err he).2;have h2:=(hx.err (hy.err he).1).2;simp only[xZ];omega);have a6:(gY (cw L x.2).place w [x.1,y.1] y.2).2.bV=s1.bV:=by show(nI _ _ _ y.2).bV=_;rw[J4,hy.bV];exact af
 generalize gY (cw L x.2).place w [x.1,y.1] y.2=z at ad hM a6;have ae:IntKind.i64.wrap (z.2.bV-1)=z.2.bV-1:=by rw[a6];exact eo
 simp only[Ad,Bp,bG.bK]at ad;refine zA ?_;simp[go_sem,au,az,aq,hw];refine zF om ?_;simp[go_sem];refine pR aa ?_;simp[go_sem];refine pY [(8,3),(10,3)] 1 3 sm kR kR ?_;simp[go_sem,aq,hw];refine su a1 cB fu ?_;simp[go_sem,bG.bK];refine su ad cB (wZ ⟨zD rfl,zD rfl,zP,tV⟩) ?_;simp[go_sem,rB,bG.bK,ae];exact wW (s:=dt z.2) hM
theorem HB(v:bF):Pure prog 375 [.agg v.row] (.agg (kn v).row):=by refine iW 0 func375 ntmps375 results375 λc hc hb=>zM ?_;simp[go_sem];exact zV (r:=.agg [.int .i64 1,.str [],.int .i64 v.kind,.int .i64 v.n,.str v.s,.sl .ro []]) (uM ⟨zU rfl,zU rfl,zU rfl,zU rfl,zU rfl,yH,tV⟩) ⟨rfl,rfl⟩
theorem wA(L:List bN)(hL:eL L)(s:RS)(hs:cZ L s)(w:aij)(h:cV L w s):bL prog 74 [.ptr 0 0,.str w] [rB L s] (λr U=>r=.bool true/\U=[rB L (zS s)]):=by have:=DX L hL s hs w;unfold mM at this;rw[ahP h,h]at this;exact this
theorem jF(L:List bN)(hL:eL L)(s:RS)(hs:cZ L s)(w:aij)(h:cV L w s=false):bL prog 74 [.ptr 0 0,.str w] [rB L s] (λr U=>r=.bool false/\U=[rB L s]):=by have:=DX L hL s hs w;unfold mM at this;rw[ahO (by rw[h];decide),h]at this;exact this
theorem wl0(L:List bN)(hL:eL L)(rec:Nat->RS->PR)(s:RS)(hs:cZ L s)(hP:PW L rec s.bV)(hex:∀s',cZ L s'->s'.bV=s.bV->bL prog 210 [.ptr 0 0] [rB L s'] (RR L (rec 0 s'))):bL prog 374 [.ptr 0 0] [rB L s] (RR L (tI L (rec 6) (rec 0) s)):=by
 generalize hM:tI L (rec 6) (rec 0) s=M;unfold tI at hM;have ab:=nG L hL s hs;have an:=hs.at_;have hl:=hL.len;have ei:IntKind.i64.wrap ((s.at_:Int)+1)=((s.at_+1:Nat):Int):=by rw[bR om om];omega
 have ag:=DY L hL s hs;refine iW 1 func374 ntmps374 results374 λc hc hb=>zM ?_
 by_cases q1:cV L [45] s=true;.rw[ahP q1]at hM;have ak:=wA L hL s hs _ q1;have ad:=hs.next hL q1;have hy:=hP.ok 6 (zS s) ad rfl;have ae:=hP.unary (zS s) ad rfl;generalize rec 6 (zS s)=y at hy ae hM;have ah:=mN L y.2 (cw L s).place [78,69,71] [y.1] sm (J7 hy.wide) (λhe=>by have h1:=(hy.err he).2;simp only[xZ];omega);generalize gY (cw L s).place [78,69,71] [y.1] y.2=z at ah hM;simp only[Ad,Bp,bG.bK]at ah;simp[go_sem];refine pR ab ?_;simp[go_sem];refine pR ak ?_;simp[go_sem];refine pY [(4,3),(6,3)] 1 3 sm kR kR ?_;simp[go_sem];refine su ae cB fu ?_;simp[go_sem,bG.bK];refine su ah cB (wZ ⟨zD rfl,zD rfl,zP,tV⟩) ?_;simp[go_sem,bG.bK];exact wW hM.symm
 have q1:cV L [45] s=false:=sU q1;rw[ahO (by rw[q1];decide)]at hM;have af:=jF L hL s hs _ q1;by_cases q2:cV L [40] s=true;.rw[ahP q2]at hM;have aa:=wA L hL s hs _ q2;have ad:=hs.next hL q2;have hy:=hP.ok 0 (zS s) ad rfl;have ae:=hex (zS s) ad rfl;generalize rec 0 (zS s)=y at hy ae hM;have al:=lM L hL y.2 hy.ct [41];generalize yE L [41] y.2=u at al hM;simp[go_sem];refine pR ab ?_;simp[go_sem];refine pR af ?_;simp[go_sem];refine pR aa ?_;simp[go_sem];refine j5 ae cB fu ?_;simp[go_sem,bG.bK];refine pR al ?_;simp[go_sem];exact wW hM.symm
 have q2:cV L [40] s=false:=sU q2;rw[ahO (by rw[q2];decide)]at hM;have aa:=jF L hL s hs _ q2;simp[go_sem];refine pR ab ?_;simp[go_sem];refine pR af ?_;simp[go_sem];refine pR aa ?_;simp[go_sem];by_cases q3:cV L [84,82,85,69] s=true;.rw[ahP q3]at hM;have hv:=HB ⟨1,1,[]⟩;simp only[bG.bK,bF.row]at hv;refine pR (wA L hL s hs _ q3) ?_;simp[go_sem];refine pC hv ?_;simp[go_sem];exact wW (e:=kn ⟨1,1,[]⟩) (s:=zS s) hM.symm
 have q3:cV L [84,82,85,69] s=false:=sU q3;rw[ahO (by rw[q3];decide)]at hM;refine pR (jF L hL s hs _ q3) ?_;simp[go_sem];by_cases q4:cV L [70,65,76,83,69] s=true;.rw[ahP q4]at hM;have hv:=HB ⟨1,0,[]⟩;simp only[bG.bK,bF.row]at hv;refine pR (wA L hL s hs _ q4) ?_;simp[go_sem];refine pC hv ?_;simp[go_sem];exact wW (e:=kn ⟨1,0,[]⟩) (s:=zS s) hM.symm
 have q4:cV L [70,65,76,83,69] s=false:=sU q4;rw[ahO (by rw[q4];decide)]at hM;refine pR (jF L hL s hs _ q4) ?_;simp[go_sem];by_cases q5:cV L pg s=true;.rw[ahP q5]at hM;have hv:=HB ⟨0,0,[]⟩;simp only[bG.bK,bF.row]at hv;refine pR (wA L hL s hs _ q5) ?_;simp[go_sem];refine pC hv ?_;simp[go_sem];exact wW (e:=kn ⟨0,0,[]⟩) (s:=zS s) hM.symm
 have q5:cV L pg s=false:=sU q5;rw[ahO (by rw[q5];decide)]at hM;refine pR (jF L hL s hs _ q5) ?_;simp[go_sem];obtain⟨t,ht⟩:=eX (cw L s);rw[ht]at hM;rw[ht];by_cases q6:t.kind=2;.rw[ahP q6]at hM;have hv:=HB ⟨2,t.n,[]⟩;simp only[bG.bK,bF.row]at hv;have ai:(t.kind==2)=true:=sU q6;simp[go_sem,ai,rB,ei];refine pC hv ?_;simp[go_sem];exact wW (e:=kn ⟨2,t.n,[]⟩) (s:=zS s) hM.symm
 rw[ahO q6]at hM;have ai:(t.kind==2)=false:=sU q6;simp[go_sem,ai];by_cases q7:t.kind=3;.rw[ahP q7]at hM;have hv:=HB ⟨3,0,t.s⟩;simp only[bG.bK,bF.row]at hv;have aj:(t.kind==3)=true:=sU q7;simp[go_sem,aj,rB,ei];refine pC hv ?_;simp[go_sem];exact wW (e:=kn ⟨3,0,t.s⟩) (s:=zS s) hM.symm
 rw[ahO q7]at hM;have aj:(t.kind==3)=false:=sU q7;simp[go_sem,aj];refine pR ag ?_;simp[go_sem];exact AW (e:=Ea (xI L s).1) (s:=(xI L s).2) hM.symm
theorem wg3(L:List bN)(hL:eL L)(rec:Nat->RS->PR)(s:RS)(hs:cZ L s)(h2:s.bV<=200)(af:s.bV+1<=200->PW L rec (s.bV+1))(hex:s.bV+1<=200->∀s',cZ L s'->s'.bV=s.bV+1->bL prog 210 [.ptr 0 0] [rB L s'] (RR L (rec 0 s'))):bL prog 373 [.ptr 0 0] [rB L s] (RR L (j4 L (kI L rec 6) s)):=by
 have hr:=DZ L hL s hs om;have aa:=uT hs h2;have ad:=q9 (L:=L) s;have ag:=uS (L:=L) (s:=s);have ho:=hs.bV;have hM:j4 L (kI L rec 6) s=if(yX L s).err=0then((tI L (rec 6) (rec 0) (yX L s)).1,dt (tI L (rec 6) (rec 0) (yX L s)).2)else(dH,dt (yX L s)):=rfl;generalize j4 L (kI L rec 6) s=M at hM⊢;generalize yX L s=s1 at hr aa ad ag hM;have eo:=Eh (o:=s1.bV) om om;refine iW 1 func373 ntmps373 results373 λc hc hb=>zM ?_;by_cases q1:s1.err=0;rotate_left;.have ae:(s1.err==0)=false:=sU q1;rw[ahO q1]at hM;rw[ae]at hr;simp[go_sem];refine pR hr ?_;simp[go_sem,rB,eo];exact AW (e:=dH) (s:=dt s1) hM
 have ae:(s1.err==0)=true:=sU q1;rw[ahP q1]at hM;rw[ae]at hr;have ab:=(ag q1).2;have hP:PW L rec s1.bV:=by rw[ad];exact af ab
 have cK:=RP hL (hP.ok 6) (hP.ok 0) s1 aa rfl;have ah:=wl0 L hL rec s1 aa hP (λs' h1 h2=>hex ab s' h1 (by rw[h2,ad]));generalize tI L (rec 6) (rec 0) s1=z at cK ah hM;have ai:IntKind.i64.wrap (z.2.bV-1)=z.2.bV-1:=by rw[cK.bV];exact eo
 simp[go_sem];refine pR hr ?_;simp[go_sem];refine j5 ah cB fu ?_;simp[go_sem,rB,bG.bK,ai];exact wW (s:=dt z.2) hM
theorem RX(L:List bN)(s:RS)(x:PR)(aa:bL prog 267 [.ptr 0 0,.int .i64 0] [rB L s] (RR L x)):bL prog 210 [.ptr 0 0] [rB L s] (RR L x):=by refine iW 1 func210 ntmps210 results210 λc hc hb=>zM ?_;simp[go_sem];refine j5 aa cB (wZ ⟨zD rfl,tV⟩) ?_;simp[go_sem,bG.bK];exact wW rfl
theorem RY(L:List bN)(hL:eL L):∀(f:Nat)(o:Int),o<=200->201<=(f:Int)+o->PW L (pF L f) o
 |0,o,h,hf=>by omega|f+1,o,h,hf=>by
  have ih:∀s:RS,s.bV=o->s.bV+1<=200->PW L (pF L f) (s.bV+1):=λs hs h1=>RY L hL f (s.bV+1) h1 (by push_cast at hf;omega);have aa:∀s:RS,s.bV=o->s.bV+1<=200->∀s',cZ L s'->s'.bV=s.bV+1->bL prog 210 [.ptr 0 0] [rB L s'] (RR L (pF L f 0 s')):=λs hs h1 s' h2 h3=>RX L s' _ ((ih s hs h1).chain 0 (A3 _) s' h2 h3);refine⟨λw s hs ho=>J6 hL (f+1) w s hs om (by push_cast at hf⊢;omega),λk hk s hs ho=>?_,λs hs ho=>?_,λs hs ho=>?_,λs hs ho=>?_,λs hs ho=>?_,λs hs ho=>?_⟩
  .have hk:k=0\/k=1:=om;rcases hk with rfl|rfl;.exact Z8 L hL (pF L f) s hs om (ih s ho)
   .exact Z9 L hL (pF L f) s hs om (ih s ho)
  .exact wu3 L hL (pF L f) s hs om (ih s ho)
  .exact wt3 L hL (pF L f) s hs om (ih s ho)
  .exact Z6 L hL (pF L f) s hs om (ih s ho)
  .exact Z7 L hL (pF L f) s hs om (ih s ho)
  .exact wg3 L hL (pF L f) s hs om (ih s ho) (aa s ho)
def iT(L:List bN)(s:RS):PR:=pF L 201 0 s
theorem Ni{L:List bN}(hL:eL L){s:RS}(hs:cZ L s)(ho:s.bV=0):PI L s (iT L s):=J6 hL 201 0 s hs om om
theorem tJ(L:List bN)(hL:eL L)(s:RS)(hs:cZ L s)(ho:s.bV=0):bL prog 210 [.ptr 0 0] [rB L s] (RR L (iT L s)):=RX L s _ ((RY L hL 201 0 dc dc).chain 0 (A3 _) s hs ho)
mutual
def jP:bG->Nat|.mk _ _ _ args=>j6 args+1def j6:List bG->Nat |[]=>0|e::l=>jP e+j6 l
end
variable {e:bG}{w:aij}{o:Int}{n:Int}
theorem wy(e:bG):jP e=j6 e.args+1:=by cases e;rfl
inductive Good:bG->Prop|mk(e:bG)(hk:dq e.kind)(hs:e.s.length<=1048576)(hv:e.v.ok)(hn:e.v.s.length<=1048576)(ha:∀x∈e.args,Good x):Good e
theorem Good.str(h:Good e):e.s.length<=1048576:=by cases h;omega
theorem Good.v(h:Good e):e.v.ok:=by cases h;omega
theorem Good.sub(h:Good e):∀x∈e.args,Good x:=by cases h;omega
theorem J8:(⟨0,0,[]⟩:bF).ok:=⟨dc,dc,dc⟩
theorem wb1(h:0<=n/\n<=9223372036854775807):(⟨2,n,[]⟩:bF).ok:=⟨sm,by grind,sm⟩
theorem wg1{s:aij}(h:s.length<=1048576):(⟨3,0,s⟩:bF).ok:=⟨sm,sm,by grind[maxLen]⟩
theorem wa3{a:List bG}(h:w.length<=1048576)(ha:∀x∈a,Good x):Good (qY w a):=.mk _ (by show dq 3;decide) h J8 (A3 _) ha
theorem HC{v:bF}(h:v.ok)(h2:v.s.length<=1048576):Good (kn v):=.mk _ (by show dq 1;decide) (A3 _) h h2 (λx hx=>by cases hx)
theorem xK1(h:w.length<=1048576):Good (Ea w):=.mk _ (by show dq 2;decide) h J8 (A3 _) (λx hx=>by cases hx)
theorem RZ:Good dH:=.mk _ dc dc J8 dc (λx hx=>by cases hx)
theorem J9{x:bG}(h:Good x):∀e∈[x],Good e:=(by grind)
theorem R1{x y:bG}(h:Good x)(h2:Good y):∀e∈[x,y],Good e:=(by grind)
structure gz(L:List bN):Prop where wu:∀t∈L,t.s.length<=1048576num:∀t∈L,0<=t.n/\t.n<=9223372036854775807
variable {L:List bN}
theorem FR{s:RS}(hs:cZ L s):cw L s∈L:=by unfold cw;rw[A9,A0 hs.at_];simp
theorem R2(hG:gz L){s:RS}(hs:cZ L s)(h:cV L w s):w.length<=1048576:=by have:=hG.wu _ (FR hs);simp_all[cV]
theorem w7(hG:gz L){s:RS}(hs:cZ L s):(xI L s).1.length<=1048576:=by
 unfold xI;split;.exact hG.wu _ (FR hs)
 simp
structure PJ(s:RS)(x:PR):Prop where cN:Good x.1size:x.2.err=0->jP x.1+s.at_<=x.2.at_
abbrev PK(L:List bN)(s:RS)(x:PR):Prop:=PI L s x/\PJ s x
theorem we8(w:aij)(a:List bG):jP (qY w a)=j6 a+1:=wy _
theorem Ka (x:bG):j6 [x]=jP x:=by rfl
theorem Kb(x y:bG):j6 [x,y]=jP x+jP y:=by rfl
theorem xB9(h:e.args=[]):jP e=1:=by rw[wy,h];rfl
theorem FT{s0 s:RS}(p:Int){a:List bG}(h1:w.length<=1048576)(h2:∀x∈a,Good x)(h3:s.err=0->j6 a+1+s0.at_<=s.at_):PJ s0 (gY p w a s):=⟨wa3 h1 h2,λhe=>by have h:=Ng (p:=p) (w:=w) (a:=a) (s:=s) he;show jP (qY w a)+s0.at_<=(nI p w a s).at_;grind[Ec,we8]⟩
theorem HD(hL:eL L)(hG:gz L){o:Int}{sub:RS->PR}(ab:∀s,cZ L s->s.bV=o->PK L s (sub s))(ws:List aij){s0:RS}:∀(n:Nat)(x:PR),PK L s0 x->s0.bV=o->PJ s0 (eR L ws sub n x)
 |0,x,h,_=>h.2|n+1,x,h,ho=>by
  have aa:=FQ hL (λs h1 h2=>(ab s h1 h2).1) ws 1 x h.1 ho;unfold eR;unfold eR at aa;split;.grind
  rename_i ad;rw[ahO ad]at aa;have hi:=Ed ad;have hx:=h.1.bV;have hy:=ab (zS x.2) (h.1.ct.next hL hi) (by show x.2.bV=o;omega);have hl:=R2 hG h.1.ct hi;have aa:PI L s0 (gY (cw L x.2).place (dV L x.2 ws) [x.1,(sub (zS x.2)).1] (sub (zS x.2)).2):=aa;refine HD hL hG ab ws n _ ⟨aa,FT _ hl (R1 h.2.cN hy.2.cN) (λhe=>?_)⟩ ho;have h1:=hy.2.size he;have h2:=h.2.size (hy.1.err he).1;grind[oG,Kb]
theorem wo2(hL:eL L)(_hG:gz L){rn rc:RS->PR}(h1:∀s,cZ L s->s.bV=o->PK L s (rn s))(h2:∀s,cZ L s->s.bV=o->PK L s (rc s))(s:RS)(hs:cZ L s)(ho:s.bV=o):PJ s (nJ L rn rc s):=by
 unfold nJ;split;.rename_i hi;have hy:=h1 (zS s) (hs.next hL hi) ho;refine FT _ dc (J9 hy.2.cN) (λhe=>?_);have h:=hy.2.size he;grind[oG,Ka]
 grind
theorem wl4(hL:eL L)(hG:gz L){sub:RS->PR}(aa:∀s,cZ L s->s.bV=o->PK L s (sub s))(s:RS)(ho:s.bV=o)(x:PR)(h:PK L s x):PJ s (nK L sub x):=by
 have hx:=h.1.bV;unfold nK;split
 .rename_i hi;split;.rename_i ad;refine FT _ dc (J9 h.2.cN) (λhe=>?_);have h1:=h.2.size (wv he).1;grind[Ee,oG,Ka]
  .refine FT _ dc (J9 h.2.cN) (λhe=>?_);have h1:=h.2.size (wv he).1;grind[Ee,oG,Ka]
 .split;.grind
  rename_i ab;have hi:=Ed ab;have hy:=aa (zS x.2) (h.1.ct.next hL hi) (by show x.2.bV=o;omega);have hl:=R2 hG h.1.ct hi;refine FT _ hl (R1 h.2.cN hy.2.cN) (λhe=>?_);have h1:=hy.2.size he;have h2:=h.2.size (hy.1.err he).1;grind[oG,Kb]
theorem FU{s s2:RS}(ha:e.args=[])(h:Good e)(h2:s2.err=0->s2.at_=s.at_+1):PJ s (e,s2):=⟨h,(by grind[xB9])⟩
theorem xY4(hL:eL L)(hG:gz L){un ex:RS->PR}(h1:∀s,cZ L s->s.bV=o->PK L s (un s))(h2:∀s,cZ L s->s.bV=o->PK L s (ex s))(s:RS)(hs:cZ L s)(ho:s.bV=o):PJ s (tI L un ex s):=by
 have hm:=FR hs;unfold tI;split;.rename_i hi;have hy:=h1 (zS s) (hs.next hL hi) ho;refine FT _ dc (J9 hy.2.cN) (λhe=>?_);have h:=hy.2.size he;grind[oG,Ka]
 split;.rename_i hi;have hy:=h2 (zS s) (hs.next hL hi) ho;refine⟨hy.2.cN,λhe=>?_⟩;have h:=hy.2.size (wv he).1;grind[Ee,oG]
 split;.exact FU rfl (HC ⟨dc,dc,dc⟩ sm) (λ_=>rfl)
 split;.exact FU rfl (HC ⟨dc,dc,dc⟩ sm) (λ_=>rfl)
 split;.exact FU rfl (by simp[HC,J8]) (λ_=>rfl)
 split;.exact FU rfl (HC (wb1 (hG.num _ hm)) sm) (λ_=>rfl)
 split;.exact FU rfl (HC (wg1 (hG.wu _ hm)) (hG.wu _ hm)) (λ_=>rfl)
 .refine FU rfl (xK1 (w7 hG hs)) (λhe=>?_);have hb:=(Nh he).2;unfold xI;rw[ahP hb];rfl
theorem xY5(hL:eL L)(hG:gz L){rec:Nat->RS->PR}(h:∀w s,cZ L s->s.bV=o->PK L s (rec w s)):∀(w:Nat)(s:RS),cZ L s->s.bV=o->PJ s (kI L rec w s) |0,s,hs,ho=>HD hL hG (h 1) _ _ _ (by grind) ho|1,s,hs,ho=>HD hL hG (h 2) _ _ _ (by grind) ho|2,s,hs,ho=>wo2 hL hG (h 2) (h 3) s hs ho|3,s,hs,ho=>wl4 hL hG (h 4) s ho _ (by grind)|4,s,hs,ho=>HD hL hG (h 5) _ _ _ (by grind) ho|5,s,hs,ho=>HD hL hG (h 6) _ _ _ (by grind) ho|_w+6,s,hs,ho=>xY4 hL hG (h 6) (h 0) s hs ho
theorem we4{k:RS->PR}(s:RS)(hk:(yX L s).err=0->PJ (yX L s) (k (yX L s))):PJ s (j4 L k s):=by
 unfold j4;split;.rename_i he;have hy:=hk he;refine⟨hy.cN,λh=>?_⟩;have h2:=hy.size h;rw[J5]at h2;exact h2
 .rename_i he;exact⟨RZ,λh=>absurd h he⟩
theorem HE(hL:eL L)(hG:gz L):∀(f:Nat)(w:Nat)(s:RS),cZ L s->s.bV<=200->201<=(f:Int)+s.bV->PJ s (pF L f w s)
 |0,w,s,hs,h2,hf=>by omega|f+1,w,s,hs,h2,hf=>by unfold pF;refine we4 s (λhe=>?_);have h3:=(uS he).2;exact xY5 hL hG (o:=s.bV+1) (λw t ht ho=>⟨J6 hL f w t ht om (by push_cast at hf;omega),HE hL hG f w t ht om (by push_cast at hf;omega)⟩) w _ (uT hs h2) (q9 s)
theorem Nj{L:List bN}(hL:eL L)(hG:gz L){s:RS}(hs:cZ L s)(ho:s.bV=0):PJ s (iT L s):=HE hL hG 201 0 s hs om om
structure UI(L:List bN)(s s':RS):Prop where
 ct:cZ L s'
 bV:s'.bV=s.bV
 up:s.at_<=s'.at_
 err:s'.err=0->s.err=0
variable {L:List bN}
theorem UI.refl{s:RS}(h:cZ L s):UI L s s:=⟨h,rfl,A6 _,id⟩
theorem UI.trans{s s2 s3:RS}(h:UI L s s2)(k:UI L s2 s3):UI L s s3:=⟨k.ct,k.bV.trans h.bV,Ao h.up k.up,λe=>h.err (k.err e)⟩
theorem PI.ui{s:RS}{x:PR}(h:PI L s x):UI L s x.2:=⟨h.ct,h.bV,h.up,λe=>(h.err e).1⟩
theorem yM(hL:eL L)(w:aij){s:RS}(h:cZ L s):UI L s (yE L w s):=⟨uQ hL h,Ef w s,Ee w s,λe=>(wv e).1⟩
theorem nM(hL:eL L){s:RS}(h:cZ L s):UI L s (xI L s).2:=⟨RM hL h,RO s,RN s,λe=>(Nh e).1⟩
theorem xF(hL:eL L){s:RS}(h:cZ L s)(hi:cV L w s):UI L s (zS s):=⟨h.next hL hi,rfl,by simp[zS],id⟩
theorem R3(e p:Int){s:RS}(h:cZ L s)(he:e≠0):UI L s (iC e p s):=⟨Nf h e p,HA e p s,by rw[Hz];exact A6 _,λq=>absurd q (Eb he)⟩
theorem Nk(hL:eL L){s:RS}(h:cZ L s):UI L s (gQ L s).2:=by
 unfold gQ;split;.rename_i hb;unfold tG at hb;simp only[A8,ahX]at hb;exact⟨hL.next h (by rw[hb.2];decide),rfl,by simp[zS],id⟩
 .exact R3 _ _ h dc
def kp(L:List bN)(n fQ:Int)(b:Bool)(s:RS):RS:=if s.err=0/\fQ<=n then iC (if b=true then 3 else 13) (cw L s).place s else s
theorem tK{fQ:Int}{b:Bool}{s:RS}(h:cZ L s):UI L s (kp L n fQ b s):=by
 unfold kp;split;.exact R3 _ _ h (by split<;>decide)
 .exact UI.refl h
theorem uV{fQ:Int}{b:Bool}{s:RS}(h:(kp L n fQ b s).err=0):s.err=0/\n<fQ/\kp L n fQ b s=s:=by
 unfold kp at h⊢;split at h;.exact absurd h (Eb (by split<;>decide))
 .rename_i hc;rw[ahO hc];refine⟨h,?_,rfl⟩;by_cases q:fQ<=n;.exact absurd ⟨h,q⟩ hc
  .omega
theorem HF(L:List bN)(hL:eL L)(s:RS)(hs:cZ L s)(n fQ:Int)(b:Bool):bL prog 72 [.ptr 0 0,.int .i64 n,.int .i64 fQ,.bool b] [rB L s] (λr U=>r=.bool ((kp L n fQ b s).err==0)/\U=[rB L (kp L n fQ b s)]):=by
 have ht:=nG L hL s hs;have ae:=AU L s 3 (cw L s).place;have ad:=AU L s 13 (cw L s).place;have hM:kp L n fQ b s=if s.err=0/\fQ<=n then(if b=true then iC 3 (cw L s).place s else iC 13 (cw L s).place s)else s:=by unfold kp;cases b<;>rfl
 generalize kp L n fQ b s=M at hM⊢;have e3:(iC 3 (cw L s).place s).err≠0:=Eb dc;have af:(iC 13 (cw L s).place s).err≠0:=Eb dc;generalize iC 3 (cw L s).place s=f3 at*;generalize iC 13 (cw L s).place s=f13 at*;refine iW 1 func72 ntmps72 results72 λc hc hb=>zM ?_;simp[go_sem,rB];by_cases q1:s.err=0;rotate_left;.have aa:(s.err==0)=false:=sU q1;rw[ahO (λh=>q1 h.1)]at hM;simp[go_sem,aa];exact xR (L:=L) (s:=s) (zD rfl) ⟨by rw[hM,aa],by rw[hM];rfl⟩
 have aa:(s.err==0)=true:=sU q1;by_cases q2:fQ<=n;rotate_left;.have ab:decide (fQ<=n)=false:=ahQ q2;rw[ahO (λh=>q2 h.2)]at hM;simp[go_sem,aa,ab];exact xR (L:=L) (s:=s) (zD rfl) ⟨by rw[hM,aa],by rw[hM];rfl⟩
 have ab:decide (fQ<=n)=true:=ahR q2;rw[ahP ⟨q1,q2⟩]at hM;simp[go_sem,aa,ab];refine(A1 b).elim (λq=>?_) (λq=>?_);.rw[ahP q]at hM;have ag:(f3.err==0)=false:=sU e3;subst q;simp[go_sem];refine pR ht ?_;simp[go_sem];refine pR ae ?_;simp[go_sem,rB];exact xR (L:=L) (s:=f3) (zD rfl) ⟨by rw[hM],by rw[hM];rfl⟩
 .rw[ahO (by rw[q];decide)]at hM;subst q;simp[go_sem];refine pR ht ?_;simp[go_sem];refine pR ad ?_;simp[go_sem,rB];exact xR (L:=L) (s:=f13) (zD rfl) ⟨by rw[hM],by rw[hM];rfl⟩
def FV:aij:= [67,79,85,78,84]
def rb:aij:= [83,85,77]
def Nl:List aij:=[[45],[40],[78,79,84],[84,82,85,69],[70,65,76,83,69],[78,85,76,76]]
def jQ(L:List bN)(item:Bool)(s:RS):Bool:=((cw L s).kind==2||((cw L s).kind==3||((cw L s).kind==1&&jr (cw L s).s)))||((item&&(cV L FV s||cV L rb s))||!(dV L s Nl==[]))
theorem R4(L:List bN)(hL:eL L)(s:RS)(hs:cZ L s)(item:Bool):bL prog 209 [.ptr 0 0,.bool item] [rB L s] (λr U=>r=.bool (jQ L item s)/\U=[rB L s]):=by
 have ht:=nG L hL s hs;have h1:=js L hL s hs FV;have h2:=js L hL s hs rb;have h3:=AV L hL s hs Nl dc;have ab:=hL.wu _ (FR hs);have hw:=DW (cw L s).s ab;generalize hM:jQ L item s=M;unfold jQ at hM;generalize cV L FV s=c1 at h1 hM;generalize cV L rb s=c2 at h2 hM;generalize dV L s Nl=a at h3 hM;generalize jr (cw L s).s=b at hw hM;have ad:(a !=[])=!a.isEmpty:=by cases a<;>rfl
 have aa:(a==[])=a.isEmpty:=by cases a<;>rfl
 rw[aa]at hM;have ret:∀(r:Bool)(τ:St),r=M->bW (some (.bool r)) 1 (λr U=>r=.bool M/\U=[rB L s]) (rB L s::τ):=λr τ h=>by subst h;exact xR (zD rfl) ⟨rfl,rfl⟩
 refine iW 1 func209 ntmps209 results209 λc hc hb=>zM ?_;simp[go_sem];refine pR ht ?_;simp[go_sem];repeat'(first |(refine yA (λq=>?_) (λq=>?_)<;>simp[go_sem,q])|(refine zO (λq=>?_) (λq=>?_)<;>simp[go_sem,q])|(refine pC hw ?_;simp[go_sem])|(refine pR h1 ?_;simp[go_sem])|(refine pR h2 ?_;simp[go_sem])|(refine pR h3 ?_;simp[go_sem]))
 all_goals exact ret _ _ (by rw[<-hM];simp_all)
variable {L:List bN}
def Ei:aij:= [87,72,69,82,69]
def pn(L:List bN)(s:RS):RS:=if cV L Ei s=true then(iT L (zS s)).2else s
def iU(e:bG):List V:=[.int .i64 e.kind,.str e.s,.int .i64 e.v.kind,.int .i64 e.v.n,.str e.v.s,.sl .ro (e.args.map bG.row)]
def Kc(L:List bN)(s:RS)(a b:List V)(o:Ob):Ob:=if cV L Ei s=true then .box (a++[.bool true]++iU (iT L (zS s)).1++b)else o
theorem uW(hL:eL L){s:RS}(h:cZ L s)(ho:s.bV=0):UI L s (iT L s).2:=(Ni hL h ho).ui
theorem FW(hL:eL L){s:RS}(h:cZ L s)(ho:s.bV=0):UI L s (pn L s):=by
 unfold pn;split;.rename_i hi;exact(xF hL h hi).trans (uW hL (h.next hL hi) ho)
 .exact UI.refl h
theorem wh2(L:List bN)(hL:eL L)(s:RS)(hs:cZ L s)(ho:s.bV=0)(τ:St)(j:Nat)(c0 c1 c2 c3 c4 c5 c6 c7 c8 c9 af ag ab ad ae:V)(hj:τ[j]?=some (.box [c0,c1,c2,c3,c4,c5,c6,c7,c8,c9,af,ag,ab,ad,ae])):bL prog 139 [.ptr 0 0,.ptr (j+1) 0] (rB L s::τ) (λr U=>r=.cm []/\U=rB L (pn L s)::τ.set j (Kc L s [c0,c1,c2,c3,c4] [ab,ad,ae] (.box [c0,c1,c2,c3,c4,c5,c6,c7,c8,c9,af,ag,ab,ad,ae]))):=by
 have aj:=(A5.1 hj).1;have ah:=(A5.1 hj).2;unfold pn Kc;refine bL.intro (τ.length+1) func139 ntmps139 results139 rfl rfl (Cc rfl) λc hc hb=>zM ?_;by_cases q:cV L Ei s=true
 .rw[ahP q,ahP q];have aa:=wA L hL s hs _ q;have ai:=tJ L hL (zS s) (hs.next hL q) ho;generalize iT L (zS s)=y at ai⊢;simp[go_sem];refine pR aa ?_;simp[go_sem];refine j5 ai cB fu ?_;simp[go_sem,bG.bK,ah,aj];refine Mj ?_ ⟨rfl,?_⟩;.simp
  .simp[go_sem,iU]
 .have q:cV L Ei s=false:=sU q;have aa:=jF L hL s hs _ q;rw[ahO (by rw[q];decide),ahO (by rw[q];decide)];simp[go_sem];refine pR aa ?_;simp[go_sem];refine Mj sm ⟨rfl,?_⟩;rw[<-ah,List.set_getElem_self]
def po(L:List bN)(s:RS):cJ×RS:=if cV L FV s=true then(⟨3,dH⟩,yE L [41] (yE L [42] (yE L [40] (zS s))))else if cV L rb s=true then(⟨4,(iT L (yE L [40] (zS s))).1⟩,yE L [41] (iT L (yE L [40] (zS s))).2)else(⟨2,(iT L s).1⟩,(iT L s).2)
def tL(L:List bN):Nat->List cJ->RS->List cJ×RS|0,l,s=>(l,s)|n+1,l,s=>if(kp L l.length 6 (jQ L true s) s).err=0then(if cV L [44] (po L s).2=true then tL L n (l++[(po L s).1]) (zS (po L s).2)else(l++[(po L s).1],(po L s).2))else(l,kp L l.length 6 (jQ L true s) s)
def ri(L:List bN)(s:RS):List cJ×RS:=if cV L [42] s=true then([⟨1,dH⟩],zS s)else tL L 7 [] s
theorem Nn(hL:eL L){s:RS}(h:cZ L s)(ho:s.bV=0):UI L s (po L s).2:=by
 unfold po;split;.rename_i hi;have h1:=xF hL h hi;have h2:=h1.trans (yM hL [40] h1.ct);have h3:=h2.trans (yM hL [42] h2.ct);exact h3.trans (yM hL [41] h3.ct)
 split;.rename_i hi;have h1:=xF hL h hi;have h2:=h1.trans (yM hL [40] h1.ct);have h3:=h2.trans (uW hL h2.ct (h2.bV.trans ho));exact h3.trans (yM hL [41] h3.ct)
 .exact uW hL h ho
theorem xw2{τ:St}{l:List cJ}{s:RS}{g:Tag}{M:List cJ×RS}(h:(l,s)=M):bW (some (.sl g (l.map cJ.row))) 1 (λr U=>r=.sl .ro (M.1.map cJ.row)/\U=[rB L M.2]) (rB L s::τ):=by subst h;exact xR zP ⟨rfl,rfl⟩
theorem wb3(L:List bN)(hL:eL L)(s0:RS)(al:cZ L s0)(aw:s0.bV=0):bL prog 208 [.ptr 0 0] [rB L s0] (λr U=>r=.sl .ro ((ri L s0).1.map cJ.row)/\U=[rB L (ri L s0).2]):=by
 generalize hM:ri L s0=M;unfold ri at hM;refine iV 1 func208 ntmps208 results208 λc hc hb=>?_;refine zA ?_;simp[go_sem];by_cases q0:cV L [42] s0=true;.rw[ahP q0]at hM;refine pR (wA L hL s0 al _ q0) ?_;simp[go_sem];refine xR (r:=.sl .ro ([(⟨1,dH⟩:cJ)].map cJ.row)) ?_ ⟨by rw[<-hM],by rw[<-hM]⟩;exact zP
 have q0:cV L [42] s0=false:=sU q0;rw[ahO (by rw[q0];decide)]at hM;refine pR (jF L hL s0 al _ q0) ?_;simp[go_sem];refine wL 3 7 dc sg ?_;refine zG (S:=List cJ×RS) [0,3] (λu=>[.ptr 0 0,.sl (.app 1) (u.1.map cJ.row)]) (λu=>[rB L u.2,.app u.1.length 7]) (λu=>7-u.1.length) (λu=>u.1.length<=6/\UI L s0 u.2/\tL L (7-u.1.length) u.1 u.2=M) hc hb ([],s0) ⟨A3 _,UI.refl al,hM⟩ ?_ ?_;.exact aN 2 (by simp[rB,bO,cH,cF])
 rintro⟨l,s⟩⟨hl,hu,hinv⟩;simp only at hl hu hinv;have hs:=hu.ct;have ho:=hu.bV.trans aw;have ae:=R4 L hL s hs true;have ab:=HF L hL s hs l.length 6 (jQ L true s);have an:=uV (L:=L) (n:=l.length) (fQ:=6) (b:=jQ L true s) (s:=s);rw[show 7-l.length=(6-l.length)+1by omega,tL]at hinv;generalize jQ L true s=bg at ae ab an hinv;generalize kp L l.length 6 bg s=m at ab an hinv;by_cases q:m.err=0;rotate_left;.have q':(m.err==0)=false:=sU q;rw[ahO q]at hinv;rw[q']at ab;refine zA ?_;simp[go_sem];refine pR ae ?_;simp[go_sem];refine pR ab ?_;simp[go_sem];exact xw2 hinv
 have q':(m.err==0)=true:=sU q;obtain⟨he,ax,rfl⟩:=an q;rw[ahP q]at hinv;rw[q']at ab;have ak:=Nn hL hs ho;have ad:=hu.trans ak;generalize hit:po L m=it at hinv ak ad;unfold po at hit;have aa:∀b,cV L [44] it.2=b->bL prog 74 [.ptr 0 0,.str [44]] [rB L it.2] (λr U=>r=.bool b/\U=[rB L (if b=true then zS it.2else it.2)]):=λb hb=>by cases b with|true=>exact wA L hL it.2 ad.ct _ hb|false=>exact jF L hL it.2 ad.ct _ hb
 by_cases q1:cV L FV m=true
 .rw[ahP q1]at hit;have ah:=hs.next hL q1;have ai:=lM L hL _ ah [40];have af:=uQ hL (w:=[40]) ah;generalize yE L [40] (zS m)=u1 at ai af hit;have ao:=lM L hL _ af [42];have aq:=uQ hL (w:=[42]) af;generalize yE L [42] u1=u2 at ao aq hit;have aj:=lM L hL _ aq [41];generalize yE L [41] u2=u3 at aj hit;subst hit;simp only at hinv ad aa;refine zA ?_;simp[go_sem];refine pR ae ?_;simp[go_sem];refine pR ab ?_;simp[go_sem];refine pR (wA L hL m hs _ q1) ?_;simp[go_sem];refine pR ai ?_;simp[go_sem];refine pR ao ?_;simp[go_sem];refine pR aj ?_;simp[go_sem];refine zF ⟨om,zT rfl⟩ ?_;simp[go_sem];refine(A1 (cV L [44] u3)).elim (λq2=>?_) (λq2=>?_);.rw[ahP q2]at hinv;refine pR (aa true q2) ?_;simp[go_sem];refine zH (l++[⟨3,dH⟩],zS u3) ⟨by simp;omega,⟨by simp;omega,ad.trans (xF hL ad.ct q2),by simp only[Al,Bm,show 7-(l.length+1)=6-l.length by omega];exact hinv⟩,?_⟩;exact aM 2 (by simp[rB,bO,cH,cF]) (zC (by simp[go_sem]<;>exact⟨rfl,rfl,rfl,rfl,rfl,rfl⟩) rfl)
  .rw[ahO (by rw[q2];decide)]at hinv;refine pR (aa false q2) ?_;simp[go_sem];exact xR (L:=L) zP ⟨by rw[<-hinv];simp[cJ.row]<;>exact⟨rfl,rfl,rfl,rfl,rfl,rfl⟩,by rw[<-hinv]⟩
 have q1:cV L FV m=false:=sU q1;rw[ahO (by rw[q1];decide)]at hit;by_cases ag:cV L rb m=true
 .rw[ahP ag]at hit;have ah:=hs.next hL ag;have ai:=lM L hL _ ah [40];have af:=uQ hL (w:=[40]) ah;have ar:=Ef (L:=L) [40] (zS m);generalize yE L [40] (zS m)=u1 at ai af ar hit;have au:u1.bV=0:=by rw[ar];exact ho
  have hx:=tJ L hL u1 af au;have av:=(Ni hL af au).ct;generalize iT L u1=x at hx av hit;have aj:=lM L hL _ av [41];generalize yE L [41] x.2=u3 at aj hit;subst hit;simp only at hinv ad aa;refine zA ?_;simp[go_sem];refine pR ae ?_;simp[go_sem];refine pR ab ?_;simp[go_sem];refine pR (jF L hL m hs _ q1) ?_;simp[go_sem];refine pR (wA L hL m hs _ ag) ?_;simp[go_sem];refine pR ai ?_;simp[go_sem];refine j5 hx cB fu ?_;simp[go_sem,bG.bK];refine pR aj ?_;simp[go_sem];refine zF ⟨om,zT rfl⟩ ?_;simp[go_sem];refine(A1 (cV L [44] u3)).elim (λq2=>?_) (λq2=>?_);.rw[ahP q2]at hinv;refine pR (aa true q2) ?_;simp[go_sem];refine zH (l++[⟨4,x.1⟩],zS u3) ⟨by simp;omega,⟨by simp;omega,ad.trans (xF hL ad.ct q2),by simp only[Al,Bm,show 7-(l.length+1)=6-l.length by omega];exact hinv⟩,?_⟩;exact aM 2 (by simp[rB,bO,cH,cF]) (zC (by simp[go_sem]<;>exact⟨rfl,rfl,rfl,rfl,rfl,rfl⟩) rfl)
  .rw[ahO (by rw[q2];decide)]at hinv;refine pR (aa false q2) ?_;simp[go_sem];exact xR (L:=L) zP ⟨by rw[<-hinv];simp[cJ.row]<;>exact⟨rfl,rfl,rfl,rfl,rfl,rfl⟩,by rw[<-hinv]⟩
 have ag:cV L rb m=false:=sU ag;rw[ahO (by rw[ag];decide)]at hit
 .have hx:=tJ L hL m hs ho;generalize iT L m=x at hx hit;subst hit;simp only at hinv ad aa;refine zA ?_;simp[go_sem];refine pR ae ?_;simp[go_sem];refine pR ab ?_;simp[go_sem];refine pR (jF L hL m hs _ q1) ?_;simp[go_sem];refine pR (jF L hL m hs _ ag) ?_;simp[go_sem];refine j5 hx cB fu ?_;simp[go_sem,bG.bK];refine zF ⟨om,zT rfl⟩ ?_;simp[go_sem];refine(A1 (cV L [44] x.2)).elim (λq2=>?_) (λq2=>?_);.rw[ahP q2]at hinv;refine pR (aa true q2) ?_;simp[go_sem];refine zH (l++[⟨2,x.1⟩],zS x.2) ⟨by simp;omega,⟨by simp;omega,ad.trans (xF hL ad.ct q2),by simp only[Al,Bm,show 7-(l.length+1)=6-l.length by omega];exact hinv⟩,?_⟩;exact aM 2 (by simp[rB,bO,cH,cF]) (zC (by simp[go_sem]<;>exact⟨rfl,rfl,rfl,rfl,rfl,rfl⟩) rfl)
  .rw[ahO (by rw[q2];decide)]at hinv;refine pR (aa false q2) ?_;simp[go_sem];exact xR (L:=L) zP ⟨by rw[<-hinv];simp[cJ.row]<;>exact⟨rfl,rfl,rfl,rfl,rfl,rfl⟩,by rw[<-hinv]⟩
end Go.Proofs.YtefbicjgbaaieaaGreat
