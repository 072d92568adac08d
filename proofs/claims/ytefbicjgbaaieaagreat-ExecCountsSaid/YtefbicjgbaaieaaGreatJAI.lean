/-
  The document's reader of statements: a SELECT, over trees (the library Vx); used by the theorem at the end of the claim.
  Conditions: as each theorem states them.
-/
import Derived.Test.YtefbicjgbaaieaaGreatJAE
set_option maxHeartbeats 8000000
namespace Go.Proofs.YtefbicjgbaaieaaGreat
open Go Go.Vx Go.Proofs.Tryz
set_option maxRecDepth 100000
variable {τ:St}{P:Program}{c:Ctx}{f:FuncId}{caps:List V}{args':List V}{KV:V->St->Prop}
theorem zm3 {ρ:Nat->Nat} {g:Tag} {rows rows':List (List V)} (h:rows'=rows):argS ρ (.sl .ro rows') (.sl g rows):=by subst h;exact zL
theorem yD5 {n:Int} (h:0<=n) (h2:n<=255):IntKind.u8.wrap n=n:=by
 unfold IntKind.wrap
 simp[IntKind.bits,IntKind.signed]
 omega
def yF (c:UInt8):UInt8:=if 97<=c.toNat/\c.toNat<=122 then UInt8.ofNat (c.toNat - 32)else c
def xJ (c:UInt8):Bool:=decide (48<=c.toNat/\c.toNat<=57)
def wG (c:UInt8):Bool:=decide (65<=(yF c).toNat/\(yF c).toNat<=90)||decide (c.toNat=95)
theorem yz3 (c:UInt8):Pure prog 205 [.int .u8 c.toNat] (.int .u8 (yF c).toNat):=by
 have hc:=c.toNat_lt
 have ret: ∀(r:Int) (σ:St),r=((yF c).toNat:Int)->wret (some (.int .u8 r)) 0 (fun r s=>r= .int .u8 (yF c).toNat/\s= []) σ:=fun r σ h=>by subst h;exact wR
 unfold yF at ret⊢
 obtain⟨n,hn⟩:=eX c.toNat
 have aa:n<=255->(UInt8.ofNat (n - 32)).toNat=n - 32:=fun h=>by
  rw[UInt8.toNat_ofNat'];exact Cs om
 rw[hn]at hc ret⊢
 refine iW 0 func205 ntmps205 results205 fun c hc hb=>zK ?_
 simp[go_sem]
 refine xB (fun q=> ?_) (fun q=> ?_)
 .have q1:97<=n:=by simp at q;omega
  simp[go_sem,q]
  refine zR (fun q2=> ?_) (fun q2=> ?_)
  .have q2:n<=122:=by simp at q2;omega
   have e1:IntKind.u8.wrap ((n:Int) - 97)=(n:Int) - 97:=yD5 om om
   have e2:IntKind.u8.wrap ((n:Int) - 97+65)=(n:Int) - 97+65:=yD5 om om
   simp[go_sem,e1,e2]
   exact ret _ _ (by rw[if_pos ⟨q1,q2⟩,aa om];omega)
  .have q2: ¬n<=122:=by simp at q2;omega
   simp[go_sem]
   exact ret _ _ (by rw[if_neg (fun h=>q2 h.2),hn])
 .have q1: ¬97<=n:=by simp at q;omega
  simp[go_sem,q]
  exact ret _ _ (by rw[if_neg (fun h=>q1 h.1),hn])
theorem zx0 (c:UInt8):Pure prog 204 [.int .u8 c.toNat] (.bool (xJ c)):=by
 unfold xJ
 generalize c.toNat=n
 generalize hM:decide (48<=n/\n<=57)=M
 have ret: ∀(r:Bool) (σ:St),r=M->wret (some (.bool r)) 0 (fun r s=>r= .bool M/\s= []) σ:=fun r σ h=>by subst h;exact wR
 refine iW 0 func204 ntmps204 results204 fun c hc hb=>zK ?_
 simp[go_sem]
 refine xB (fun q=> ?_) (fun q=> ?_)
 .simp[go_sem,q]
  refine ret _ _ ?_
  rw[<-hM]
  simp at q
  exact decide_eq_decide.2 om
 .simp[go_sem,q]
  refine ret _ _ ?_
  rw[<-hM]
  simp at q
  exact(decide_eq_false om).symm
theorem zz3 (c:UInt8):Pure prog 203 [.int .u8 c.toNat] (.bool (wG c)):=by
 have hg:=yz3 c
 unfold wG
 revert hg
 generalize (yF c).toNat=g
 generalize c.toNat=n
 generalize hM:(decide (65<=g/\g<=90)||decide (n=95))=M
 have ret: ∀(r:Bool) (σ:St),r=M->wret (some (.bool r)) 0 (fun r s=>r= .bool M/\s= []) σ:=fun r σ h=>by subst h;exact wR
 have aa: ∀(a:Nat) (b:Bool),((a:Int)==95)=b->decide (a=95)=b:=fun a b h=>by
  rw[<-h]
  by_cases q:a=95
  .subst q;rfl
  .rw[decide_eq_false q]
   exact(beq_eq_false_iff_ne.2 om).symm
 intro hg
 refine iW 0 func203 ntmps203 results203 fun c hc hb=>zK ?_
 simp[go_sem]
 refine pC hg ?_
 simp[go_sem]
 refine xB (fun q=> ?_) (fun q=> ?_)
 .simp[go_sem,q]
  refine pC hg ?_
  simp[go_sem]
  simp at q
  refine xB (fun q2=> ?_) (fun q2=> ?_)
  .have q3: ¬g<=90:=by simp at q2;omega
   simp[go_sem,q2]
   exact ret _ _ (by rw[<-hM,decide_eq_false (fun h=>q3 h.2),Bx];exact(aa n _ rfl).symm)
  .have q3:g<=90:=by simp at q2;omega
   simp[go_sem,q2]
   exact ret _ _ (by rw[<-hM,decide_eq_true ⟨om,q3⟩];rfl)
 .have q3: ¬65<=g:=by simp at q;omega
  simp[go_sem,q]
  exact ret _ _ (by rw[<-hM,decide_eq_false (fun h=>q3 h.1),Bx];exact(aa n _ rfl).symm)
def resv:List (List UInt8):= [[65,76,76],[65,78,68],[65,83],[65,83,67],[66,69,84,87,69,69,78],[66,79,85,78,68],[66,89],[67,79,85,78,84],[68,69,76,69,84,69],[68,69,83,67],[69,88,65,67,84],[70,65,76,83,69],[70,82,79,77],[73,78,83,69,82,84],[73,78,84,79],[73,83],[76,73,77,73,84],[78,79,84],[78,85,76,76],[78,79,87],[79,70],[79,82],[79,82,68,69,82],[83,69,76,69,67,84],[83,69,84],[83,85,77],[83,89,83,84,69,77],[84,73,77,69],[84,82,85,69],[85,80,68,65,84,69],[86,65,76,85,69,83],[87,72,69,82,69]]
theorem zS3:resv.length=32:=rfl
theorem yR5:Pure prog 249 [] (.sl .ro (resv.map fun s=> [.str s])):=by
 refine iW 0 func249 ntmps249 results249 fun c hc hb=>zK ?_
 simp[go_sem]
 exact xP (zm3 (by simp[resv])) ⟨rfl,rfl⟩
def okC (c:UInt8):Bool:=(wG c||xJ c)&&(yF c==c)
def zi6 (s:List UInt8):Bool:=decide (1<=s.length/\s.length<=16)&&(!xJ (s.headD 0)&&(s.all okC&& !resv.contains s))
theorem zX0 (s:List UInt8) (hl:s.length<=maxLen):Pure prog 170 [.str s] (.bool (zi6 s)):=by
 generalize hM:zi6 s=M
 unfold zi6 at hM
 have ret: ∀(r:Bool) (σ:St),r=M->wret (some (.bool r)) 0 (fun r s=>r= .bool M/\s= []) σ:=fun r σ h=>by subst h;exact wR
 refine iV 0 func170 ntmps170 results170 fun c hc hb=> ?_
 refine zA ?_
 simp[go_sem]
 by_cases h0:s.length=0
 .have ae:((s.length:Int)==0)=true:=sU h0
  simp[go_sem,ae]
  exact ret _ _ (by rw[<-hM,decide_eq_false om];rfl)
 have ae:((s.length:Int)==0)=false:=sU h0
 simp[go_sem,ae]
 by_cases ag:s.length<=16
 rotate_left
 .have ad:decide (16<(s.length:Int))=true:=by simp;omega
  simp[go_sem,ad]
  exact ret _ _ (by rw[<-hM,decide_eq_false om];rfl)
 have ad:decide (16<(s.length:Int))=false:=by simp;omega
 rw[decide_eq_true ⟨om,ag⟩,Au]at hM
 have hp:0<s.length:=om
 obtain⟨c0,af⟩: ∃c,s[0]=c:=⟨_,rfl⟩
 have ah:s.headD 0=c0:=by
  rw[<-af]
  cases s with
  |nil=>simp at hp
  |cons x l=>rfl
 rw[ah]at hM
 simp[go_sem,ad,hp,af]
 try (refine zI om ?_;simp[go_sem])
 refine pC (zx0 c0) ?_
 simp[go_sem]
 refine zR (fun hd=> ?_) (fun hd=> ?_)
 .simp[go_sem]
  exact ret _ _ (by rw[<-hM,hd];rfl)
 rw[hd,Bool.not_false,Au]at hM
 simp[go_sem]
 refine zH (S:=Nat) [0,3] (fun i=> [.str s,.int .i64 i]) (fun _=> []) (fun i=>s.length - i) (fun i=>i<=s.length/\(s.drop i).all okC=s.all okC) hc hb 0 ⟨A3 _,rfl⟩ ?_ ?_
 .exact aO
 rintro i ⟨hi,hinv⟩
 refine zA ?_
 simp[go_sem]
 refine zR (fun q=> ?_) (fun q=> ?_)
 .have q:i<s.length:=sU q
  have ei:=zS q om
  obtain⟨c1,aa⟩: ∃c,s[i]=c:=⟨_,rfl⟩
  rw[A5 q,Ac,aa]at hinv
  have hok:okC c1=((wG c1||xJ c1)&&(yF c1==c1)):=rfl
  have g1:=zz3 c1
  have g2:=zx0 c1
  have g3:=yz3 c1
  have ab:(((yF c1).toNat:Int) !=(c1.toNat:Int))= !(yF c1==c1):=by
   by_cases h:yF c1=c1
   .rw[h];simp
   .have: ¬(yF c1).toNat=c1.toNat:=fun w=>h (UInt8.toNat_inj.1 w)
    rw[beq_eq_false_iff_ne.2 h]
    simp
    omega
  revert hok g1 g2 g3 ab
  generalize wG c1=bl
  generalize xJ c1=bd
  generalize ai:(yF c1==c1)=bg
  generalize yF c1=cg
  intro hok g1 g2 g3 ab
  have bad: ∀(b:Bool) (σ:St),okC c1=false->wret (some (.bool false)) 0 (fun r s=>r= .bool M/\s= []) σ:=fun b σ h=>ret _ _ (by rw[<-hM,<-hinv,h];rfl)
  have good:okC c1=true->(s.drop (i+1)).all okC=s.all okC:=fun h=>by rw[<-hinv,h,Au]
  simp[go_sem]
  refine xA [(3,0),(9,0),(16,0)] 0 rfl kR kR ?_
  simp[go_sem,q,aa]
  refine pD g1 ?_
  simp[go_sem]
  refine(A7 bl).elim (fun w=> ?_) (fun w=> ?_)
  .simp[go_sem,w,q,aa]
   refine pD g3 ?_
   simp[go_sem,q,aa]
   refine zR (fun w3=> ?_) (fun w3=> ?_)
   .simp[go_sem]
    exact bad true _ (by rw[hok,w];rw[ab]at w3;simpa using w3)
   .simp[go_sem,ei]
    exact zG (i+1) ⟨om,⟨q,good (by rw[hok,w];rw[ab]at w3;simpa using w3)⟩,aO⟩
  .simp[go_sem,w,q,aa]
   refine pD g2 ?_
   simp[go_sem]
   refine(A7 bd).elim (fun w2=> ?_) (fun w2=> ?_)
   .simp[go_sem,w2,q,aa]
    refine pD g3 ?_
    simp[go_sem,q,aa]
    refine zR (fun w3=> ?_) (fun w3=> ?_)
    .simp[go_sem]
     exact bad true _ (by rw[hok,w,w2];rw[ab]at w3;simpa using w3)
    .simp[go_sem,ei]
     exact zG (i+1) ⟨om,⟨q,good (by rw[hok,w,w2];rw[ab]at w3;simpa using w3)⟩,aO⟩
   .simp[go_sem,w2]
    exact bad true _ (by rw[hok,w,w2];rfl)
 .have q:i=s.length:=by
   have: ¬i<s.length:=sU q
   omega
  subst q
  rw[Cf,Cb]at hinv
  rw[<-hinv,Au]at hM
  simp[go_sem]
  refine pC yR5 ?_
  simp[go_sem]
  refine zH (S:=Nat) [0,4,5] (fun i=> [.str s,.sl .ro (resv.map fun s=> [.str s]),.int .i64 i]) (fun _=> []) (fun i=>32 - i) (fun i=>i<=32/\(resv.drop i).contains s=resv.contains s) hc hb 0 ⟨A3 _,rfl⟩ ?_ ?_
  .exact aO
  rintro i ⟨hi,hinv⟩
  refine zA ?_
  simp[go_sem,zS3]
  refine zR (fun q=> ?_) (fun q=> ?_)
  .have q:i<32:=by simp at q;omega
   have q2:i<resv.length:=by rw[zS3];exact q
   have ei:=zS q om
   obtain⟨x,hx⟩:=eX (resv[i])
   rw[A5 q2,Dk,hx]at hinv
   simp[go_sem,zS3,q,hx]
   try (refine zI om ?_;simp[go_sem])
   refine zR (fun w=> ?_) (fun w=> ?_)
   .have w:x=s:=sU w
    simp[go_sem]
    exact ret _ _ (by rw[<-hM,<-hinv,w];simp)
   .have w: ¬x=s:=sU w
    have w2:(s==x)=false:=beq_eq_false_iff_ne.2 fun h=>w h.symm
    rw[w2,Bx]at hinv
    simp[go_sem,ei]
    exact zG (i+1) ⟨om,⟨q,hinv⟩,aO⟩
  .have q:i=32:=by simp at q;omega
   subst q
   rw[C3 (by rw[zS3];exact A4 _)]at hinv
   simp[go_sem]
   exact ret _ _ (by rw[<-hM,<-hinv];rfl)
structure GToken where
 kind:Int
 place:Int
 s:List UInt8
 n:Int
 deriving DecidableEq
@[go_sem] def GToken.row (x:GToken):List V:= [.int .i64 x.kind,.int .i64 x.place,.str x.s,.int .i64 x.n]
structure RS where
 at_:Nat
 opn:Int
 err:Int
 place:Int
 deriving DecidableEq
def rB (L:List GToken) (s:RS):Ob:= .box [.sl .ro (L.map GToken.row),.int .i64 (s.at_:Int),.int .i64 s.opn,.int .i64 s.err,.int .i64 s.place]
theorem xg2 (L:List GToken) (s:RS) (n:Nat):ltOb n (rB L s)=true:=by rfl
def yY:GToken:=⟨0,0,[],0⟩
def tokF (L:List GToken) (s:RS):GToken:=L.getD s.at_ yY
def wM (e place:Int) (s:RS):RS:=if s.err=0 then{s with err:=e,place:=place}else s
def zJ (s:RS):RS:={s with at_:=s.at_+1}
def outF (s:RS):RS:={s with opn:=s.opn - 1}
def isT (L:List GToken) (w:List UInt8) (s:RS):Bool:=s.err==0&&(((tokF L s).kind==1||(tokF L s).kind==4)&&(tokF L s).s==w)
def eatF (L:List GToken) (w:List UInt8) (s:RS):RS:=if isT L w s=true then zJ s else s
def zV (L:List GToken) (w:List UInt8) (s:RS):RS:=if isT L w s=true then zJ s else wM 13 (tokF L s).place s
def zN4 (L:List GToken) (s:RS):Bool:=s.err==0&&((tokF L s).kind==1&&zi6 (tokF L s).s)
def yO (L:List GToken) (s:RS):List UInt8×RS:=if zN4 L s=true then((tokF L s).s,zJ s)else([],wM 13 (tokF L s).place s)
def numB (L:List GToken) (s:RS):Bool:=s.err==0&&(tokF L s).kind==2
def numF (L:List GToken) (s:RS):Int×RS:=if numB L s=true then((tokF L s).n,zJ s)else(0,wM 13 (tokF L s).place s)
def anyF (L:List GToken) (s:RS):List (List UInt8)->List UInt8
 | []=> []
 |w::ws=>if isT L w s=true then w else anyF L s ws
def yE (L:List GToken) (s:RS):RS:=if s.err=0/\s.opn+1>200 then{s with opn:=s.opn+1,err:=3,place:=(tokF L s).place}else{s with opn:=s.opn+1}
structure RIn (L:List GToken) (s:RS):Prop where
 at_:s.at_<L.length
 opn:0<=s.opn/\s.opn<=100000
structure LIn (L:List GToken):Prop where
 len:L.length<=1000000
 last: ∀i,L.length=i+1->(L.getD i yY).kind=0
 txt: ∀t∈L,t.s.length<=maxLen
theorem LIn.next {L:List GToken} (h:LIn L) {s:RS} (hs:RIn L s) (hk:(tokF L s).kind≠0):RIn L (zJ s):=by
 refine⟨?_,hs.opn⟩
 have h1:=hs.at_
 rcases C1 (s.at_+1) L.length with h2|h2
 .exact h2
 .exact absurd (h.last s.at_ om) hk
theorem xz1 {L:List GToken} {w:List UInt8} {s:RS} (h:isT L w s=true):(tokF L s).kind≠0/\s.err=0:=by
 simp_all[isT];omega
theorem zr9 (L:List GToken) (hL:LIn L) (s:RS) (hs:RIn L s):VCalls prog 76 [.ptr 0 0] [rB L s] (fun r σ=>r= .agg (tokF L s).row/\σ= [rB L s]):=by
 have h1:=hs.at_
 have hl:=hL.len
 obtain⟨t,ht⟩:=eX (L[s.at_])
 have aa:tokF L s=t:=by unfold tokF;grind
 rw[aa]
 refine iW 1 func76 ntmps76 results76 fun c hc hb=>zK ?_
 simp[go_sem,rB]
 refine zc2 [(10,4)] 2 sM (by rfl) kR ?_
 simp[go_sem,h1,ht]
 exact xM 1 rfl rfl rfl om (zC rfl) sM
theorem yn7 {args:List V} {L:List GToken} {s s':RS} {v:V} (hc:VCalls P f args' [rB L s] (fun r σ=>r=v/\σ= [rB L s'])) (hb:wL P f=true)
  (aa:All2 (argS (ren [0] (τ.length+1))) args' (args++caps)) (hn:noS v=true) (hk:KV v (rB L s'::τ)):wVC P c (.fn f caps) args (rB L s::τ) KV fx:=by
 refine zm2 0 hc hb rfl (by rfl) aa (by grind[xg2]) ?_
 rintro r o2 ⟨rfl,h2⟩
 obtain rfl:o2=rB L s':=by grind
 grind[zF4]
theorem zx6 {n:Nat} {args:List V} {L:List GToken} {s s':RS} {v:V} (hc:VCalls P f args' [rB L s] (fun r σ=>r=v/\σ= [rB L s'])) (hb:wL P f=true)
  (aa:All2 (argS (ren [0] (τ.length+1))) args' (args++caps)) (hn:noS v=true) (hk:KV v (rB L s'::τ)):wVD P c ⟨1,n,[],none⟩ 3 (.fn f caps) args (rB L s::τ) KV fx:=
 xS1 hc hb rfl (by rfl) (by rfl) aa hn hk
theorem wJ {N:Nat} {l l':List V} (h:All2 (argS (ren [0] N)) l l'):All2 (argS (ren [0] N)) (.ptr 0 0::l) (.ptr 0 0::l'):=⟨.inl rfl,h⟩
theorem rd_1 {N:Nat}:All2 (argS (ren [0] N)) [.ptr 0 0] [.ptr 0 0]:=wJ trivial
theorem pR {args:List V} {L:List GToken} {s s':RS} {v:V} (hc:VCalls P f args' [rB L s] (fun r σ=>r=v/\σ= [rB L s'])) (hk:KV v (rB L s'::τ))
  (aa:All2 (argS (ren [0] (τ.length+1))) args' (args++caps):=by first|exact rd_1|exact wJ (zY rfl)|exact wJ ⟨zL,zY rfl⟩|exact wJ ⟨zC rfl,zL,zY rfl⟩|exact wJ ⟨zL,zL,zY rfl⟩)
  (hb:wL P f=true:=by kernel_rfl) (hn:noS v=true:=by rfl):wVC P c (.fn f caps) args (rB L s::τ) KV fx:=yn7 hc hb aa hn hk
theorem xD {R:V->St->Prop} {L:List GToken} {s:RS} {v r:V} (hr:argS (ren (List.range 1) (rB L s::τ).length) r v) (hR:R r [rB L s]):wret (some v) 1 R (rB L s::τ):=
 xM 1 rfl rfl (by rfl) om hr hR
theorem is_w (L:List GToken) (hL:LIn L) (s:RS) (hs:RIn L s) (w:List UInt8):VCalls prog 75 [.ptr 0 0,.str w] [rB L s] (fun r σ=>r= .bool (isT L w s)/\σ= [rB L s]):=by
 have ht:=zr9 L hL s hs
 have aa:(tokF L s).s.length<=maxLen:=by
  unfold tokF
  rw[A8,A0 hs.at_]
  exact hL.txt _ sM
 generalize hM:isT L w s=M
 unfold isT at hM
 obtain⟨t,ab⟩:=eX (tokF L s)
 rw[ab]at hM ht aa
 have ret: ∀(r:Bool) (τ:St),r=M->wret (some (.bool r)) 1 (fun r σ=>r= .bool M/\σ= [rB L s]) (rB L s::τ):=fun r τ h=>by subst h;exact xD (zC rfl) sM
 refine iW 1 func75 ntmps75 results75 fun c hc hb=>zK ?_
 simp[go_sem]
 refine pR ht ?_
 simp[go_sem,rB]
 repeat' (first|(refine xB (fun q=> ?_) (fun q=> ?_)<;>simp[go_sem,q])|(refine zR (fun q=> ?_) (fun q=> ?_)<;>simp[go_sem,q]))
 all_goals exact ret _ _ (by rw[<-hM];simp_all)
theorem yf2 (L:List GToken) (hL:LIn L) (s:RS) (hs:RIn L s) (w:List UInt8):VCalls prog 74 [.ptr 0 0,.str w] [rB L s] (fun r σ=>r= .bool (isT L w s)/\σ= [rB L (eatF L w s)]):=by
 have hi:=is_w L hL s hs w
 have h1:=hs.at_
 have hl:=hL.len
 have ei:IntKind.i64.wrap ((s.at_:Int)+1)=((s.at_+1:Nat):Int):=by grind[i64_id]
 unfold eatF
 generalize isT L w s=b at hi
 refine iW 1 func74 ntmps74 results74 fun c hc hb=>zK ?_
 simp[go_sem]
 refine pR hi ?_
 simp[go_sem,rB]
 refine(A7 b).elim (fun q=> ?_) (fun q=> ?_)
 all_goals subst q
 all_goals simp[go_sem,ei]
 .exact xD (s:=zJ s) (zC rfl) (by trivial)
 .exact xD (s:=s) (zC rfl) (by trivial)
theorem zI0 (L:List GToken) (s:RS) (e p:Int):VCalls prog 79 [.ptr 0 0,.int .i64 e,.int .i64 p] [rB L s] (fun r σ=>r= .tup []/\σ= [rB L (wM e p s)]):=by
 unfold wM
 refine iW 1 func79 ntmps79 results79 fun c hc hb=>zK ?_
 simp[go_sem,rB]
 refine zR (fun q=> ?_) (fun q=> ?_)
 .have q:s.err=0:=by grind
  simp[go_sem,q]
  exact xD (s:={s with err:=e,place:=p}) (zC rfl) (by trivial)
 .have q: ¬s.err=0:=by grind
  simp[go_sem,q]
  exact xD (s:=s) (zC rfl) (by trivial)
theorem zd9 (L:List GToken) (hL:LIn L) (s:RS) (hs:RIn L s) (w:List UInt8):VCalls prog 77 [.ptr 0 0,.str w] [rB L s] (fun r σ=>r= .tup []/\σ= [rB L (zV L w s)]):=by
 have he:=yf2 L hL s hs w
 have ht:=zr9 L hL s hs
 have hf:=zI0 L s 13 (tokF L s).place
 unfold eatF at he
 unfold zV
 generalize isT L w s=b at he
 refine iW 1 func77 ntmps77 results77 fun c hc hb=>zK ?_
 simp[go_sem]
 refine pR he ?_
 simp[go_sem]
 refine(A7 b).elim (fun q=> ?_) (fun q=> ?_)
 all_goals subst q
 all_goals simp[go_sem]
 .exact xD (zC rfl) sM
 .refine pR ht ?_
  simp[go_sem]
  refine pR hf ?_
  simp[go_sem]
  exact xD (zC rfl) sM
theorem zO9 (L:List GToken) (hL:LIn L) (s:RS) (hs:RIn L s):VCalls prog 138 [.ptr 0 0] [rB L s] (fun r σ=>r= .str (yO L s).1/\σ= [rB L (yO L s).2]):=by
 have ht:=zr9 L hL s hs
 have hf:=zI0 L s 13 (tokF L s).place
 have ad:(tokF L s).s.length<=maxLen:=by
  unfold tokF
  rw[A8,A0 hs.at_]
  exact hL.txt _ sM
 have hw:=zX0 (tokF L s).s ad
 have h1:=hs.at_
 have hl:=hL.len
 have ei:IntKind.i64.wrap ((s.at_:Int)+1)=((s.at_+1:Nat):Int):=by grind[i64_id]
 have ab:zN4 L s=false->yO L s=([],wM 13 (tokF L s).place s):=fun h=>by unfold yO;grind
 have aa:zN4 L s=true->yO L s=((tokF L s).s,zJ s):=fun h=>by unfold yO;grind
 generalize yO L s=M at ab aa⊢
 unfold zN4 at ab aa
 obtain⟨t,ae⟩:=eX (tokF L s)
 rw[ae]at ht hf hw ab aa
 obtain⟨b,af⟩:=eX (zi6 t.s)
 rw[af]at hw ab aa
 have key:((s.err==0&&(t.kind==1&&b))=false/\(s.err !=0)=true)∨((s.err==0&&(t.kind==1&&b))=false/\(s.err !=0)=false/\(t.kind !=1)=true)∨((s.err==0&&(t.kind==1&&b))=b/\(s.err !=0)=false/\(t.kind !=1)=false):=by
  grind
 have no: ∀τ:St,M=([],wM 13 t.place s)->wret (some (.str [])) 1 (fun r σ=>r= .str M.1/\σ= [rB L M.2]) (rB L (wM 13 t.place s)::τ):=fun τ h=>by subst h;exact xD (zC rfl) sM
 refine iW 1 func138 ntmps138 results138 fun c hc hb=>zK ?_
 simp[go_sem]
 refine pR ht ?_
 simp[go_sem,rB]
 refine key.elim (fun⟨q1,q2⟩=> ?_) fun key=>key.elim (fun⟨q1,q2,q3⟩=> ?_) fun⟨q1,q2,q3⟩=> ?_
 .simp[go_sem,q2]
  refine pR hf ?_
  simp[go_sem]
  exact no _ (ab q1)
 .simp[go_sem,q2,q3]
  refine pR hf ?_
  simp[go_sem]
  exact no _ (ab q1)
 .simp[go_sem,q2,q3]
  refine pC hw ?_
  refine(A7 b).elim (fun q=> ?_) (fun q=> ?_)
  .have hM:=aa (q1.trans q)
   subst q
   subst hM
   simp[go_sem,ei]
   exact xD (s:=zJ s) (zC rfl) (by trivial)
  .have hM:=ab (q1.trans q)
   subst q
   simp[go_sem]
   refine pR hf ?_
   simp[go_sem]
   exact no _ hM
theorem yu2 (L:List GToken) (hL:LIn L) (s:RS) (hs:RIn L s):VCalls prog 78 [.ptr 0 0] [rB L s] (fun r σ=>r= .int .i64 (numF L s).1/\σ= [rB L (numF L s).2]):=by
 have ht:=zr9 L hL s hs
 have hf:=zI0 L s 13 (tokF L s).place
 have h1:=hs.at_
 have hl:=hL.len
 have ei:IntKind.i64.wrap ((s.at_:Int)+1)=((s.at_+1:Nat):Int):=by grind[i64_id]
 have ab:numB L s=false->numF L s=(0,wM 13 (tokF L s).place s):=fun h=>by unfold numF;grind
 have aa:numB L s=true->numF L s=((tokF L s).n,zJ s):=fun h=>by unfold numF;grind
 generalize numF L s=M at ab aa⊢
 unfold numB at ab aa
 obtain⟨t,ad⟩:=eX (tokF L s)
 rw[ad]at ht hf ab aa
 have key:((s.err==0&&t.kind==2)=false/\(s.err !=0)=true)∨((s.err==0&&t.kind==2)=false/\(s.err !=0)=false/\(t.kind !=2)=true)∨((s.err==0&&t.kind==2)=true/\(s.err !=0)=false/\(t.kind !=2)=false):=by
  grind
 have no: ∀τ:St,M=(0,wM 13 t.place s)->wret (some (.int .i64 0)) 1 (fun r σ=>r= .int .i64 M.1/\σ= [rB L M.2]) (rB L (wM 13 t.place s)::τ):=fun τ h=>by subst h;exact xD (zC rfl) sM
 refine iW 1 func78 ntmps78 results78 fun c hc hb=>zK ?_
 simp[go_sem]
 refine pR ht ?_
 simp[go_sem,rB]
 refine key.elim (fun⟨q1,q2⟩=> ?_) fun key=>key.elim (fun⟨q1,q2,q3⟩=> ?_) fun⟨q1,q2,q3⟩=> ?_
 .simp[go_sem,q2]
  refine pR hf ?_
  simp[go_sem]
  exact no _ (ab q1)
 .simp[go_sem,q2,q3]
  refine pR hf ?_
  simp[go_sem]
  exact no _ (ab q1)
 .have hM:=aa q1
  subst hM
  simp[go_sem,q2,q3,ei]
  exact xD (s:=zJ s) (zC rfl) (by trivial)
theorem zY3 (L:List GToken) (hL:LIn L) (s:RS) (hs:RIn L s) (ws:List (List UInt8)) (hw:ws.length<=1000):VCalls prog 71 [.ptr 0 0,.sl .ro (ws.map fun w=> [V.str w])] [rB L s] (fun r σ=>r= .str (anyF L s ws)/\σ= [rB L s]):=by
 generalize hM:anyF L s ws=M
 have ret: ∀(r:List UInt8) (τ:St),r=M->wret (some (.str r)) 1 (fun r σ=>r= .str M/\σ= [rB L s]) (rB L s::τ):=fun r τ h=>by subst h;exact xD (zC rfl) sM
 refine iV 1 func71 ntmps71 results71 fun c hc hb=> ?_
 refine zA ?_
 simp[go_sem]
 refine zH (S:=Nat) [0,1,5] (fun i=> [.ptr 0 0,.sl .ro (ws.map fun w=> [V.str w]),.int .i64 i]) (fun _=> [rB L s]) (fun i=>ws.length - i) (fun i=>i<=ws.length/\anyF L s (ws.drop i)=M) hc hb 0 (by grind) ?_ ?_
 .exact at_n 1 (by rfl) rfl (by rfl) om (zF (by rfl) rfl)
 rintro i ⟨hi,hinv⟩
 by_cases q:i<ws.length
 rotate_left
 .rw[A9 om]at hinv
  refine zA ?_
  simp[go_sem,q]
  exact ret _ _ hinv
 have ei:=zS q om
 obtain⟨w,hx⟩:=eX (ws[i])
 rw[A5 q,hx,anyF]at hinv
 have aa:=is_w L hL s hs w
 obtain⟨b,ab⟩:=eX (isT L w s)
 rw[ab]at aa hinv
 refine zA ?_
 simp[go_sem,q,hx]
 refine pR aa ?_
 simp[go_sem]
 refine zR (fun w1=> ?_) (fun w1=> ?_)
 .rw[if_pos w1]at hinv
  simp[go_sem,q,hx]
  exact ret _ _ hinv
 .rw[if_neg (by grind)]at hinv
  simp[go_sem,ei]
  exact zG (i+1) ⟨om,(by grind),at_n 1 rfl rfl (by rfl) om (zF (by rfl) rfl)⟩
theorem zP5 (L:List GToken) (hL:LIn L) (s:RS) (hs:RIn L s) (ad:s.opn<=1000):VCalls prog 334 [.ptr 0 0] [rB L s] (fun r σ=>r= .bool ((yE L s).err==0)/\σ= [rB L (yE L s)]):=by
 have ho:=hs.opn
 have ht:=zr9 L hL {s with opn:=s.opn+1} ⟨hs.at_,by grind⟩
 have e0:tokF L {s with opn:=s.opn+1}=tokF L s:=rfl
 rw[e0]at ht
 have hf:=zI0 L {s with opn:=s.opn+1} 3 (tokF L s).place
 have ei:IntKind.i64.wrap (s.opn+1)=s.opn+1:=by grind[i64_id]
 refine iW 1 func334 ntmps334 results334 fun c hc hb=>zK ?_
 simp[go_sem,rB,ei]
 by_cases q1:s.err=0
 .have aa:(s.err==0)=true:=by grind
  by_cases q2:s.opn+1>200
  .have ab:decide (200<s.opn+1)=true:=(by grind)
   have hS:yE L s=wM 3 (tokF L s).place {s with opn:=s.opn+1}:=by simp_all[yE,wM]
   rw[hS]
   simp[go_sem,aa,ab]
   refine pR ht ?_
   simp[go_sem]
   refine pR hf ?_
   unfold wM
   rw[if_pos q1]
   simp[go_sem,rB]
   exact xD (L:=L) (s:={s with opn:=s.opn+1,err:=3,place:=(tokF L s).place}) (zC rfl) (by trivial)
  .have ab:decide (200<s.opn+1)=false:=(by grind)
   have hS:yE L s={s with opn:=s.opn+1}:=by simp_all[yE]
   rw[hS]
   simp[go_sem,aa,ab]
   exact xD (L:=L) (s:={s with opn:=s.opn+1}) (zC rfl) (by trivial)
 .have aa:(s.err==0)=false:=by grind
  have hS:yE L s={s with opn:=s.opn+1}:=by simp_all[yE]
  rw[hS]
  simp[go_sem,aa]
  exact xD (L:=L) (s:={s with opn:=s.opn+1}) (zC rfl) (by trivial)
theorem yJ8:Pure prog 336 [] (.sl .ro [[.sl .ro [[.str [79,82]]]],[.sl .ro [[.str [65,78,68]]]]]):=by
 refine iW 0 func336 ntmps336 results336 fun c hc hb=>zK ?_
 simp[go_sem]
 exact xP zL sM
mutual
def za0:GExpr->Nat
 | .mk _ _ _ args=>wI args+1
def wI:List GExpr->Nat
 | []=>0
 |e::l=>max (za0 e) (wI l)
end
variable {e:GExpr}{w:List UInt8}{o:Int}{τ:St}{a:List GExpr}
theorem zk2 (e:GExpr):za0 e=wI e.args+1:=by cases e;rfl
theorem zl8: ∀(l:List GExpr) (e:GExpr),e∈l->za0 e<=wI l
 | [],_,h=>by grind
 |x::l,e,h=>by
  rw[wI]
  rcases Af.1 h with rfl|h
  .omega
  .have:=zl8 l e h;omega
inductive Wide:GExpr->Prop
 |mk (e:GExpr) (h:e.args.length<=1000000) (ha: ∀x∈e.args,Wide x):Wide e
theorem Wide.len (h:Wide e):e.args.length<=1000000:=by cases h;omega
theorem Wide.sub (h:Wide e): ∀x∈e.args,Wide x:=by cases h;omega
def maxD (l:List GExpr) (d:Nat):Nat:=l.foldl (fun d e=>max d (za0 e)) d
theorem xe3: ∀(l:List GExpr) (d:Nat),maxD l d=max d (wI l)
 | [],d=>by grind[maxD,wI]
 |e::l,d=>by
  have:=xe3 l (max d (za0 e))
  unfold maxD at this⊢
  rw[Ba,this,wI]
  omega
theorem xr7: ∀(n:Nat) (e:GExpr),za0 e<=n->n<=1000000->Wide e->Pure prog 356 [.agg e.row] (.int .i64 (za0 e:Int))
 |0,e,h,_,_=>by grind[zk2]
 |n+1,e,h,hn,hw=>by
  have ih:=xr7 n
  have ae:=zk2 e
  obtain⟨args,aa⟩:=eX e.args
  have hlen:=hw.len
  have ab:=hw.sub
  rw[aa]at ae hlen ab
  obtain⟨D,hD⟩:=eX (za0 e)
  rw[hD]at ae h⊢
  refine iV 0 func356 ntmps356 results356 fun c hc hb=> ?_
  refine zA ?_
  simp[go_sem]
  refine zH (S:=Nat×Nat) [1,3,4] (fun u=> [.ptr 0 0,.int .i64 (u.2:Int),.int .i64 (u.1:Int)]) (fun _=> [.box e.row]) (fun u=>args.length - u.1) (fun u=>u.1<=args.length/\maxD (args.drop u.1) u.2=wI args/\u.2<=n) hc hb (0,0) (by simp[xe3]) ?_ ?_
  .exact at_n 1 sg rfl (by simp[ltOb,ltC,ltK,GExpr.row_eq]) om (zF (by rfl) rfl)
  rintro⟨i,d⟩ ⟨hi,hinv,ai⟩
  simp only at hi hinv ai
  by_cases q:i<args.length
  rotate_left
  .rw[A9 om]at hinv
   have ak:d=wI args:=hinv
   have ei:IntKind.i64.wrap ((d:Int)+1)=(D:Int):=by grind[i64_id]
   refine zA ?_
   simp[go_sem,q,aa,ei]
   exact xP (zC rfl) sM
  have ei:=zS q om
  obtain⟨x,hx⟩:=eX (args[i])
  have af:x∈args:=(by grind)
  have aj:=zl8 args x af
  rw[A5 q,hx]at hinv
  have ag:=ih x om om (ab x af)
  have ad:maxD (args.drop (i+1)) (max d (za0 x))=wI args:=hinv
  obtain⟨dx,ah⟩:=eX (za0 x)
  rw[ah]at ag ad aj
  refine zA ?_
  simp[go_sem,q,aa,hx]
  refine zM ag cB (zN sg (by rw[GExpr.row_eq];rfl)) rfl ?_
  simp[go_sem,ei]
  refine zG (i+1,max d dx) ⟨om,(by grind), ?_⟩
  refine at_n 1 (by simp[go_sem,aa]) rfl (by simp[ltOb,ltC,ltK,GExpr.row_eq]) om (zF ?_ rfl)
  simp[go_sem]
  omega
abbrev PR:=GExpr×RS
def zeroE:GExpr:= .mk 0 [] ⟨0,0,[]⟩ []
def opE (w:List UInt8) (args:List GExpr):GExpr:= .mk 3 w ⟨0,0,[]⟩ args
def valE (v:GValue):GExpr:= .mk 1 [] v []
def namE (w:List UInt8):GExpr:= .mk 2 w ⟨0,0,[]⟩ []
def opS (place:Int) (w:List UInt8) (args:List GExpr) (s:RS):RS:=if s.err=0/\16<za0 (opE w args)then wM 3 place s else s
def opF (place:Int) (w:List UInt8) (args:List GExpr) (s:RS):PR:=(opE w args,opS place w args s)
def ze9 (L:List GToken) (k:RS->PR) (s:RS):PR:=if(yE L s).err=0 then((k (yE L s)).1,outF (k (yE L s)).2)else(zeroE,outF (yE L s))
def opsF (L:List GToken) (ws:List (List UInt8)) (sub:RS->PR):Nat->PR->PR
 |0,x=>x
 |n+1,x=>if anyF L x.2 ws= []then x else opsF L ws sub n (opF (tokF L x.2).place (anyF L x.2 ws) [x.1,(sub (zJ x.2)).1] (sub (zJ x.2)).2)
def wOR:List UInt8:= [79,82]
def wAND:List UInt8:= [65,78,68]
def wNOT:List UInt8:= [78,79,84]
def wIS:List UInt8:= [73,83]
def zo4:List UInt8:= [78,85,76,76]
def ye1:List UInt8:= [73,83,78,85,76,76]
def zT9:List UInt8:= [78,79,84,78,85,76,76]
def signsC:List (List UInt8):= [[61],[60,62],[60],[60,61],[62],[62,61]]
def zm1:List (List UInt8):= [[43],[45]]
def zm0:List (List UInt8):= [[42],[47],[37]]
def notK (L:List GToken) (rn rc:RS->PR) (s:RS):PR:=if isT L wNOT s=true then opF (tokF L s).place wNOT [(rn (zJ s)).1] (rn (zJ s)).2 else rc s
def cmpJ (L:List GToken) (sub:RS->PR) (x:PR):PR:=
 if isT L wIS x.2=true then
  if isT L wNOT (zJ x.2)=true then opF (tokF L x.2).place zT9 [x.1] (zV L zo4 (zJ (zJ x.2)))else opF (tokF L x.2).place ye1 [x.1] (zV L zo4 (zJ x.2))
 else if anyF L x.2 signsC= []then x else opF (tokF L x.2).place (anyF L x.2 signsC) [x.1,(sub (zJ x.2)).1] (sub (zJ x.2)).2
def zy0 (L:List GToken) (un ex:RS->PR) (s:RS):PR:=
 if isT L [45] s=true then opF (tokF L s).place [78,69,71] [(un (zJ s)).1] (un (zJ s)).2
 else if isT L [40] s=true then((ex (zJ s)).1,zV L [41] (ex (zJ s)).2)
 else if isT L [84,82,85,69] s=true then(valE ⟨1,1,[]⟩,zJ s)
 else if isT L [70,65,76,83,69] s=true then(valE ⟨1,0,[]⟩,zJ s)
 else if isT L zo4 s=true then(valE ⟨0,0,[]⟩,zJ s)
 else if(tokF L s).kind=2 then(valE ⟨2,(tokF L s).n,[]⟩,zJ s)
 else if(tokF L s).kind=3 then(valE ⟨3,0,(tokF L s).s⟩,zJ s)
 else(namE (yO L s).1,(yO L s).2)
def zf3 (L:List GToken) (rec:Nat->RS->PR):Nat->RS->PR
 |0,s=>opsF L [wOR] (rec 1) L.length (rec 1 s)
 |1,s=>opsF L [wAND] (rec 2) L.length (rec 2 s)
 |2,s=>notK L (rec 2) (rec 3) s
 |3,s=>cmpJ L (rec 4) (rec 4 s)
 |4,s=>opsF L zm1 (rec 5) L.length (rec 5 s)
 |5,s=>opsF L zm0 (rec 6) L.length (rec 6 s)
 |_,s=>zy0 L (rec 6) (rec 0) s
def pF (L:List GToken):Nat->Nat->RS->PR
 |0,_,s=>(zeroE,s)
 |f+1,w,s=>ze9 L (zf3 L (pF L f) w) s
structure PI (L:List GToken) (s:RS) (x:PR):Prop where
 rin:RIn L x.2
 opn:x.2.opn=s.opn
 up:s.at_<=x.2.at_
 err:x.2.err=0->s.err=0/\za0 x.1<=16
 wide:Wide x.1
theorem zm8 {e p:Int} {s:RS} (he:e≠0):(wM e p s).err≠0:=by unfold wM;split<;>simp_all
theorem zH8 (e p:Int) (s:RS):(wM e p s).at_=s.at_:=by unfold wM;split<;>rfl
theorem zB1 (e p:Int) (s:RS):(wM e p s).opn=s.opn:=by unfold wM;split<;>rfl
theorem yi1 {L:List GToken} {s:RS} (h:RIn L s) (e p:Int):RIn L (wM e p s):=⟨by rw[zH8];exact h.at_,by rw[zB1];exact h.opn⟩
theorem zP0 (p:Int) (w:List UInt8) (a:List GExpr) (s:RS):(opS p w a s).at_=s.at_:=by unfold opS;split;exact zH8 _ _ _;rfl
theorem yd2 (p:Int) (w:List UInt8) (a:List GExpr) (s:RS):(opS p w a s).opn=s.opn:=by unfold opS;split;exact zB1 _ _ _;rfl
theorem yB2 {p:Int} {s:RS} (h:(opS p w a s).err=0):s.err=0/\za0 (opE w a)<=16:=by
 unfold opS at h
 split at h
 .exact absurd h (zm8 dc)
 .rename_i hc
  refine⟨h, ?_⟩
  by_cases q:16<za0 (opE w a)
  .exact absurd ⟨h,q⟩ hc
  .omega
theorem wa1 {L:List GToken} {s:RS} (h:RIn L s) (p:Int) (w:List UInt8) (a:List GExpr):RIn L (opS p w a s):=⟨by rw[zP0];exact h.at_,by rw[yd2];exact h.opn⟩
theorem xf5 (p:Int) (w:List UInt8) (a:List GExpr) (s:RS):opS p w a (outF s)=outF (opS p w a s):=by
 unfold opS wM outF
 by_cases q:s.err=0/\16<za0 (opE w a)
 .rw[if_pos q,if_pos q,if_pos q.1,if_pos q.1]
 .rw[if_neg q,if_neg q]
theorem xu5 (w:List UInt8) (a:List GExpr):za0 (opE w a)=wI a+1:=zk2 _
theorem xj0 (h:a.length<=1000000) (ha: ∀x∈a,Wide x):Wide (opE w a):= .mk _ h ha
theorem xH9 (h:e.args= []):Wide e:= .mk _ (by simp[h]) (by simp[h])
def RR (L:List GToken) (x:PR):V->St->Prop:=fun r σ=>r= .agg x.1.row/\σ= [rB L x.2]
theorem wH {L:List GToken} {s:RS} {x:PR} (h:x=(e,s)):wret (some (.agg [.int .i64 e.kind,.str e.s,.int .i64 e.v.kind,.int .i64 e.v.n,.str e.v.s,.sl .ro (e.args.map GExpr.row)])) 1 (RR L x) (rB L s::τ):=by
 subst h
 exact xD (zC rfl) ⟨by rw[GExpr.row_eq],rfl⟩
theorem xe9 (e:GExpr):noS (.agg e.row)=true:=by rw[GExpr.row_eq];rfl
theorem za8 {P:Program} {c:Ctx} {f:FuncId} {caps args args':List V} {L:List GToken} {s:RS} {x:PR} {KV:V->St->Prop} (hc:VCalls P f args' [rB L s] (RR L x)) (hb:wL P f=true)
  (aa:All2 (argS (ren [0] (τ.length+1))) args' (args++caps)) (hk:KV (.agg x.1.row) (rB L x.2::τ)):wVC P c (.fn f caps) args (rB L s::τ) KV fx:=
 yn7 hc hb aa (xe9 _) hk
theorem zs6 {P:Program} {c:Ctx} {n:Nat} {f:FuncId} {caps args args':List V} {L:List GToken} {s:RS} {x:PR} {KV:V->St->Prop} (hc:VCalls P f args' [rB L s] (RR L x)) (hb:wL P f=true)
  (aa:All2 (argS (ren [0] (τ.length+1))) args' (args++caps)) (hk:KV (.agg x.1.row) (rB L x.2::τ)):wVD P c ⟨1,n,[],none⟩ 3 (.fn f caps) args (rB L s::τ) KV fx:=
 zx6 hc hb aa (xe9 _) hk
theorem op_w (L:List GToken) (s:RS) (p:Int) (w:List UInt8) (a:List GExpr) (hl:a.length<=1000) (hw: ∀x∈a,Wide x) (hd:s.err=0->wI a<=1000):
  VCalls prog 337 [.ptr 0 0,.int .i64 p,.str w,.sl .ro (a.map GExpr.row)] [rB L s] (RR L (opF p w a s)):=by
 obtain⟨D,hD⟩:=eX (za0 (opE w a))
 have ad:=xu5 w a
 rw[hD]at ad
 have hf:=zI0 L s 3 p
 have hS:opF p w a s=(opE w a,if s.err=0/\16<D then wM 3 p s else s):=by unfold opF opS;rw[hD]
 generalize opF p w a s=M at hS⊢
 refine iW 1 func337 ntmps337 results337 fun c hc hb=>zK ?_
 by_cases q1:s.err=0
 .have aa:(s.err==0)=true:=sU q1
  have ae:=xr7 1001 (opE w a) (by rw[hD,ad];have:=hd q1;omega) om (xj0 om hw)
  rw[hD]at ae
  simp[go_sem,rB,aa]
  refine zM ae cB (zN (by rw[GExpr.row_eq];rfl) rfl) rfl ?_
  simp[go_sem]
  by_cases q2:16<D
  .have ab:decide ((16:Int)<(D:Int))=true:=decide_eq_true om
   rw[if_pos ⟨q1,q2⟩]at hS
   simp[go_sem,ab]
   refine pR hf ?_
   simp[go_sem]
   exact wH hS
  .have ab:decide ((16:Int)<(D:Int))=false:=decide_eq_false om
   rw[if_neg (fun h=>q2 h.2)]at hS
   simp[go_sem,ab]
   exact wH hS
 .have aa:(s.err==0)=false:=sU q1
  rw[if_neg (fun h=>q1 h.1)]at hS
  simp[go_sem,rB,aa]
  exact wH hS
variable {L:List GToken}
theorem zb2 (s:RS):(zJ s).at_=s.at_+1:=rfl
theorem zD5 {s:RS}: ∀{ws:List (List UInt8)},anyF L s ws≠ []->isT L (anyF L s ws) s=true
 | [],h=>absurd rfl h
 |w::ws,h=>by
  unfold anyF at h⊢
  split
  .assumption
  .rename_i hn
   rw[if_neg hn]at h
   exact zD5 h
theorem RIn.next (hL:LIn L) {s:RS} (h:RIn L s) (hi:isT L w s=true):RIn L (zJ s):=hL.next h (xz1 hi).1
theorem zk8 (hL:LIn L) {s:RS} (h:RIn L s):RIn L (zV L w s):=by
 unfold zV
 split
 .exact h.next hL ‹_›
 .exact yi1 h _ _
theorem zw2 (w:List UInt8) (s:RS):s.at_<=(zV L w s).at_:=by
 unfold zV
 split
 .simp[zJ]
 .rw[zH8];exact A4 _
theorem zp4 (w:List UInt8) (s:RS):(zV L w s).opn=s.opn:=by
 unfold zV
 split
 .rfl
 .exact zB1 _ _ _
theorem zj2 {s:RS} (h:(zV L w s).err=0):s.err=0/\isT L w s=true:=by
 unfold zV at h
 split at h
 .exact⟨h,‹_›⟩
 .exact absurd h (zm8 dc)
theorem yL5 (hL:LIn L) {s:RS} (h:RIn L s):RIn L (yO L s).2:=by
 unfold yO
 split
 .rename_i hb
  unfold zN4 at hb
  simp only[A1,beq_iff_eq]at hb
  exact hL.next h (by rw[hb.2.1];decide)
 .exact yi1 h _ _
theorem yL6 (s:RS):s.at_<=(yO L s).2.at_:=by
 unfold yO
 split
 .simp[zJ]
 .simp only[zH8];exact A4 _
theorem yu1 (s:RS):(yO L s).2.opn=s.opn:=by
 unfold yO
 split
 .rfl
 .exact zB1 _ _ _
theorem zW6 {s:RS} (h:(yO L s).2.err=0):s.err=0/\zN4 L s=true:=by
 unfold yO at h
 split at h
 .exact⟨h,‹_›⟩
 .exact absurd h (zm8 dc)
theorem xL0 (h:e.args= []):za0 e=1:=by rw[zk2,h];rfl
theorem zM7 {s0 s:RS} (p:Int) (w:List UInt8) (h1:RIn L s) (h2:s.opn=s0.opn) (h3:s0.at_<=s.at_) (h4:s.err=0->s0.err=0) (h5:a.length<=1000000) (h6: ∀x∈a,Wide x):PI L s0 (opF p w a s):=
 ⟨wa1 h1 _ _ _,by show(opS p w a s).opn=_;rw[yd2,h2],by show _<=(opS p w a s).at_;rw[zP0];exact h3,fun h=>⟨h4 (yB2 h).1,(yB2 h).2⟩,xj0 h5 h6⟩
theorem zL8 (hL:LIn L) {o:Int} {sub:RS->PR} (aa: ∀s,RIn L s->s.opn=o->PI L s (sub s)) (ws:List (List UInt8)) {s0:RS}: ∀(n:Nat) (x:PR),PI L s0 x->s0.opn=o->PI L s0 (opsF L ws sub n x)
 |0,x,h,_=>h
 |n+1,x,h,ho=>by
  unfold opsF
  split
  .exact h
  rename_i ab
  have hi:=zD5 ab
  have hx:=h.opn
  have hy:=aa (zJ x.2) (h.rin.next hL hi) (by show x.2.opn=o;rw[hx,ho])
  refine zL8 hL aa ws n _ (zM7 _ _ hy.rin ?_ ?_ (fun he=>(h.err ?_).1) sM ?_) ho
  .rw[hy.opn];exact hx
  .have h1:=hy.up;have h2:=h.up;rw[zb2]at h1;omega
  .exact(hy.err he).1
  .intro e he
   simp only[Af,Ay,or_false]at he
   rcases he with rfl|rfl
   .exact h.wide
   .exact hy.wide
theorem xN9 (hL:LIn L) {rn rc:RS->PR} (h1: ∀s,RIn L s->s.opn=o->PI L s (rn s)) (h2: ∀s,RIn L s->s.opn=o->PI L s (rc s)) (s:RS) (hs:RIn L s) (ho:s.opn=o):PI L s (notK L rn rc s):=by
 unfold notK
 split
 .rename_i hi
  have hy:=h1 (zJ s) (hs.next hL hi) ho
  refine zM7 _ _ hy.rin hy.opn ?_ (fun he=>(hy.err he).1) sM (fun e he=> ?_)
  .have h1:=hy.up;rw[zb2]at h1;omega
  .simp only[Af,Ay,or_false]at he;subst he;exact hy.wide
 .exact h2 s hs ho
theorem xK7 (hL:LIn L) {sub:RS->PR} (aa: ∀s,RIn L s->s.opn=o->PI L s (sub s)) (s:RS) (ho:s.opn=o) (x:PR) (h:PI L s x):PI L s (cmpJ L sub x):=by
 have hx:=h.opn
 have hu:=h.up
 have w1: ∀e∈ [x.1],Wide e:=fun e he=>by simp only[Af,Ay,or_false]at he;subst he;exact h.wide
 unfold cmpJ
 split
 .rename_i hi
  have hn:=h.rin.next hL hi
  split
  .rename_i ab
   have ad:=hn.next hL ab
   refine zM7 _ _ (zk8 hL ad) ?_ ?_ (fun he=>(h.err ?_).1) sM w1
   .rw[zp4];exact hx
   .have:=zw2 (L:=L) zo4 (zJ (zJ x.2));simp only[zJ]at this⊢;omega
   .exact(zj2 he).1
  .refine zM7 _ _ (zk8 hL hn) ?_ ?_ (fun he=>(h.err ?_).1) sM w1
   .rw[zp4];exact hx
   .have:=zw2 (L:=L) zo4 (zJ x.2);simp only[zJ]at this⊢;omega
   .exact(zj2 he).1
 .split
  .exact h
  rename_i ae
  have hi:=zD5 ae
  have hy:=aa (zJ x.2) (h.rin.next hL hi) (by show x.2.opn=o;rw[hx,ho])
  refine zM7 _ _ hy.rin ?_ ?_ (fun he=>(h.err ?_).1) sM ?_
  .rw[hy.opn];exact hx
  .have h1:=hy.up;rw[zb2]at h1;omega
  .exact(hy.err he).1
  .intro e he
   simp only[Af,Ay,or_false]at he
   rcases he with rfl|rfl
   .exact h.wide
   .exact hy.wide
theorem zD4 {s:RS} (ha:e.args= []) {s2:RS} (h1:RIn L s2) (h2:s2.opn=s.opn) (h3:s.at_<=s2.at_) (h4:s2.err=0->s.err=0):PI L s (e,s2):=
 ⟨h1,h2,h3,fun h=>⟨h4 h,by simp only;rw[xL0 ha];decide⟩,xH9 ha⟩
theorem yF7 (hL:LIn L) {un ex:RS->PR} (h1: ∀s,RIn L s->s.opn=o->PI L s (un s)) (h2: ∀s,RIn L s->s.opn=o->PI L s (ex s)) (s:RS) (hs:RIn L s) (ho:s.opn=o):PI L s (zy0 L un ex s):=by
 unfold zy0
 split
 .rename_i hi
  have hy:=h1 (zJ s) (hs.next hL hi) ho
  refine zM7 _ _ hy.rin hy.opn ?_ (fun he=>(hy.err he).1) sM (fun e he=> ?_)
  .have h1:=hy.up;rw[zb2]at h1;omega
  .simp only[Af,Ay,or_false]at he;subst he;exact hy.wide
 split
 .rename_i hi
  have hy:=h2 (zJ s) (hs.next hL hi) ho
  refine⟨zk8 hL hy.rin, ?_, ?_,fun he=> ?_,hy.wide⟩
  .rw[zp4];exact hy.opn
  .have h1:=hy.up;have h2:=zw2 (L:=L) [41] (ex (zJ s)).2;rw[zb2]at h1;show _<=(zV L [41] (ex (zJ s)).2).at_;omega
  .have:=hy.err (zj2 he).1;exact this
 split
 .exact zD4 rfl (hs.next hL ‹_›) rfl (by simp[zJ]) id
 split
 .exact zD4 rfl (hs.next hL ‹_›) rfl (by simp[zJ]) id
 split
 .exact zD4 rfl (hs.next hL ‹_›) rfl (by simp[zJ]) id
 split
 .exact zD4 rfl (hL.next hs om) rfl (by simp[zJ]) id
 split
 .exact zD4 rfl (hL.next hs om) rfl (by simp[zJ]) id
 .exact zD4 rfl (yL5 hL hs) (yu1 s) (yL6 s) (fun h=>(zW6 h).1)
theorem xt3 (hL:LIn L) {rec:Nat->RS->PR} (h: ∀w s,RIn L s->s.opn=o->PI L s (rec w s)): ∀(w:Nat) (s:RS),RIn L s->s.opn=o->PI L s (zf3 L rec w s)
 |0,s,hs,ho=>zL8 hL (h 1) _ _ _ (h 1 s hs ho) ho
 |1,s,hs,ho=>zL8 hL (h 2) _ _ _ (h 2 s hs ho) ho
 |2,s,hs,ho=>xN9 hL (h 2) (h 3) s hs ho
 |3,s,hs,ho=>xK7 hL (h 4) s ho _ (h 4 s hs ho)
 |4,s,hs,ho=>zL8 hL (h 5) _ _ _ (h 5 s hs ho) ho
 |5,s,hs,ho=>zL8 hL (h 6) _ _ _ (h 6 s hs ho) ho
 |_w+6,s,hs,ho=>yF7 hL (h 6) (h 0) s hs ho
theorem zS6 (s:RS):(yE L s).at_=s.at_:=by unfold yE;split<;>rfl
theorem zb6 (s:RS):(yE L s).opn=s.opn+1:=by unfold yE;split<;>rfl
theorem zh0 {s:RS} (h:(yE L s).err=0):s.err=0/\s.opn+1<=200:=by
 unfold yE at h
 split at h
 .simp at h
 .rename_i hc
  refine⟨h, ?_⟩
  by_cases q:s.opn+1>200
  .exact absurd ⟨h,q⟩ hc
  .omega
theorem zl0 {s:RS} (hs:RIn L s) (h:s.opn<=200):RIn L (yE L s):=⟨by rw[zS6];exact hs.at_,by rw[zb6];have:=hs.opn;omega⟩
theorem xf8 {s:RS} (hs:RIn L s) (h:1<=s.opn):RIn L (outF s):=⟨hs.at_,by have:=hs.opn;simp only[outF];omega⟩
theorem xE3 {k:RS->PR} (s:RS) (hs:RIn L s) (h2:s.opn<=200) (hk:(yE L s).err=0->PI L (yE L s) (k (yE L s))):PI L s (ze9 L k s):=by
 have hr:=zl0 hs h2
 have ho:=hs.opn
 unfold ze9
 split
 .rename_i he
  have hy:=hk he
  have h1:=hy.opn
  have h3:=hy.up
  rw[zb6]at h1
  rw[zS6]at h3
  refine⟨xf8 hy.rin om, ?_,h3,fun h=>⟨(zh0 he).1,(hy.err h).2⟩,hy.wide⟩
  simp only[outF]
  omega
 .rename_i he
  refine zD4 rfl (xf8 hr (by rw[zb6];omega)) ?_ ?_ (fun h=>absurd h he)
  .simp only[outF,zb6];omega
  .simp only[outF,zS6];exact A4 _
theorem xg0 (hL:LIn L): ∀(f:Nat) (w:Nat) (s:RS),RIn L s->s.opn<=200->201<=(f:Int)+s.opn->PI L s (pF L f w s)
 |0,w,s,hs,h2,hf=>by omega
 |f+1,w,s,hs,h2,hf=>by
  unfold pF
  refine xE3 s hs h2 (fun he=> ?_)
  have h3:=(zh0 he).2
  exact xt3 hL (o:=s.opn+1) (fun w t ht ho=>xg0 hL f w t ht om (by push_cast at hf;omega)) w _ (zl0 hs h2) (zb6 s)
structure PW (L:List GToken) (rec:Nat->RS->PR) (o:Int):Prop where
 ok: ∀w s,RIn L s->s.opn=o->PI L s (rec w s)
 chain: ∀k:Nat,k<=1-> ∀s,RIn L s->s.opn=o->VCalls prog 267 [.ptr 0 0,.int .i64 (k:Int)] [rB L s] (RR L (rec k s))
 not: ∀s,RIn L s->s.opn=o->VCalls prog 355 [.ptr 0 0] [rB L s] (RR L (rec 2 s))
 cmp: ∀s,RIn L s->s.opn=o->VCalls prog 364 [.ptr 0 0] [rB L s] (RR L (rec 3 s))
 sum: ∀s,RIn L s->s.opn=o->VCalls prog 369 [.ptr 0 0] [rB L s] (RR L (rec 4 s))
 prod: ∀s,RIn L s->s.opn=o->VCalls prog 372 [.ptr 0 0] [rB L s] (RR L (rec 5 s))
 unary: ∀s,RIn L s->s.opn=o->VCalls prog 373 [.ptr 0 0] [rB L s] (RR L (rec 6 s))
theorem zz8 {g:Tag} {L:List GToken} {s:RS} {x:PR} (h:x=(e,s)):wret (some (.agg [.int .i64 e.kind,.str e.s,.int .i64 e.v.kind,.int .i64 e.v.n,.str e.v.s,.sl g (e.args.map GExpr.row)])) 1 (RR L x) (rB L s::τ):=by
 subst h
 refine xD (r:= .agg [.int .i64 e.kind,.str e.s,.int .i64 e.v.kind,.int .i64 e.v.n,.str e.v.s,.sl .ro (e.args.map GExpr.row)]) (zv2 ⟨zU rfl,zU rfl,zU rfl,zU rfl,zU rfl,yX,tV⟩) ⟨by rw[GExpr.row_eq],rfl⟩
def zB:Ob:= .box [.int .i64 0,.str [],.int .i64 0,.int .i64 0,.str [],.sl .full []]
theorem zE9 (h0:0<=o) (h1:o<=1000):IntKind.i64.wrap (o - 1)=o - 1:=i64_id om om
theorem wg5 (L:List GToken) (hL:LIn L) (rec:Nat->RS->PR) (s:RS) (hs:RIn L s) (h2:s.opn<=200) (aj:s.opn+1<=200->PW L rec (s.opn+1)):
  VCalls prog 369 [.ptr 0 0] [rB L s] (RR L (ze9 L (zf3 L rec 4) s)):=by
 have hr:=zP5 L hL s hs om
 have aa:=zl0 hs h2
 have ab:=zb6 (L:=L) s
 have ak:=zh0 (L:=L) (s:=s)
 have ho:=hs.opn
 have hM:ze9 L (zf3 L rec 4) s=if(yE L s).err=0 then((opsF L zm1 (rec 5) L.length (rec 5 (yE L s))).1,outF (opsF L zm1 (rec 5) L.length (rec 5 (yE L s))).2)else(zeroE,outF (yE L s)):=rfl
 generalize ze9 L (zf3 L rec 4) s=M at hM⊢
 generalize yE L s=s1 at hr aa ab ak hM
 have eo:=zE9 (o:=s1.opn) om om
 refine iV 1 func369 ntmps369 results369 fun c hc hb=> ?_
 by_cases q1:s1.err=0
 rotate_left
 .have af:(s1.err==0)=false:=sU q1
  rw[if_neg q1]at hM
  rw[af]at hr
  refine zA ?_
  simp[go_sem]
  refine pR hr ?_
  simp[go_sem,rB,eo]
  exact zz8 (e:=zeroE) (s:=outF s1) hM
 have af:(s1.err==0)=true:=sU q1
 rw[if_pos q1]at hM
 rw[af]at hr
 have hP:=aj (ak q1).2
 have ag:=hP.ok 5 s1 aa ab
 have al:=hP.prod s1 aa ab
 generalize rec 5 s1=x0 at ag al hM
 have ae:=zY3 L hL x0.2 ag.rin zm1 dc
 obtain⟨N,hN⟩:=eX L.length
 rw[hN]at hM
 refine zA ?_
 simp[go_sem]
 refine pR hr ?_
 simp[go_sem]
 refine za8 al cB rd_1 ?_
 simp[go_sem]
 refine pR ae ?_
 simp[go_sem]
 refine zH (S:=PR) [0,2,3,4] (fun x=> [.ptr 0 0,.ptr 1 0,.ptr 2 0,.str (anyF L x.2 zm1)]) (fun x=> [rB L x.2,zB,.box x.1.row]) (fun x=>N - x.2.at_) (fun x=>PI L s1 x/\ ∃n,N<=n+x.2.at_/\((opsF L zm1 (rec 5) n x).1,outF (opsF L zm1 (rec 5) n x).2)=M) hc hb x0 ⟨ag,N,om,hM.symm⟩ ?_ ?_
 .exact at_n 3 (by simp[go_sem,zB]) rfl (by simp[rB,zB,ltOb,ltC,ltK,GExpr.row_eq]) dc (zF sg rfl)
 rintro x ⟨hx,n,hn,hinv⟩
 have ax:=hx.rin.at_
 have ae:=zY3 L hL x.2 hx.rin zm1 dc
 have an:=zr9 L hL x.2 hx.rin
 have ad:=hx.opn
 by_cases q:anyF L x.2 zm1= []
 .have au:M=(x.1,outF x.2):=by
   cases n with
   |zero=>exact hinv.symm
   |succ n=>rw[opsF,if_pos q]at hinv;exact hinv.symm
  have av:IntKind.i64.wrap (x.2.opn - 1)=x.2.opn - 1:=by rw[ad];exact eo
  refine zA ?_
  simp[go_sem,q,rB,av]
  exact wH (s:=outF x.2) au
 obtain⟨n,rfl⟩: ∃m,n=m+1:=⟨n - 1,om⟩
 rw[opsF,if_neg q]at hinv
 have hi:=zD5 q
 have ao:=hx.rin.next hL hi
 have hy:=hP.ok 5 (zJ x.2) ao (by show x.2.opn=_;rw[ad,ab])
 have aq:=hP.prod (zJ x.2) ao (by show x.2.opn=_;rw[ad,ab])
 generalize rec 5 (zJ x.2)=y at hy aq hinv
 have aw:=hy.up
 rw[zb2]at aw
 have hz:PI L s1 (opF (tokF L x.2).place (anyF L x.2 zm1) [x.1,y.1] y.2):=zM7 _ _ hy.rin (by rw[hy.opn];exact ad) (by have:=hx.up;omega) (fun he=>(hx.err (hy.err he).1).1) sM (fun e he=>by
  simp only[Af,Ay,or_false]at he
  rcases he with rfl|rfl
  .exact hx.wide
  .exact hy.wide)
 have ah:=op_w L y.2 (tokF L x.2).place (anyF L x.2 zm1) [x.1,y.1] sM (fun e he=>by
  simp only[Af,Ay,or_false]at he
  rcases he with rfl|rfl
  .exact hx.wide
  .exact hy.wide) (fun he=>by
   have h1:=(hy.err he).2
   have h2:=(hx.err (hy.err he).1).2
   simp only[wI]
   omega)
 have ar:(opF (tokF L x.2).place (anyF L x.2 zm1) [x.1,y.1] y.2).2.at_=y.2.at_:=zP0 _ _ _ _
 generalize opF (tokF L x.2).place (anyF L x.2 zm1) [x.1,y.1] y.2=z at hz ah hinv ar
 have ai:=zY3 L hL z.2 hz.rin zm1 dc
 have ay:=hz.rin.at_
 have hl:=hL.len
 have ei:IntKind.i64.wrap ((x.2.at_:Int)+1)=((x.2.at_+1:Nat):Int):=by rw[i64_id om om];omega
 have q':(anyF L x.2 zm1).isEmpty=false:=sU q
 refine zA ?_
 simp[go_sem,q']
 refine pR an ?_
 simp[go_sem,rB,ei]
 simp only[Ai,Bm,GExpr.row_eq]at ah
 refine za9 [(3,1),(5,3),(7,3)] 1 3 sM kR kR ?_
 simp[go_sem]
 refine zs6 aq cB rd_1 ?_
 simp[go_sem,GExpr.row_eq]
 refine zs6 ah cB (wJ ⟨zC rfl,zC rfl,zL,tV⟩) ?_
 simp[go_sem,GExpr.row_eq]
 refine pR ai ?_
 simp[go_sem]
 refine zG z ⟨om,⟨hz,n,om,hinv⟩, ?_⟩
 exact at_n 3 (by simp[go_sem,rB,zB,GExpr.row_eq]) rfl (by simp[zB,ltOb,ltC,ltK,GExpr.row_eq]) dc (zF sg rfl)
theorem wa6 (L:List GToken) (hL:LIn L) (rec:Nat->RS->PR) (s:RS) (hs:RIn L s) (h2:s.opn<=200) (aj:s.opn+1<=200->PW L rec (s.opn+1)):
  VCalls prog 372 [.ptr 0 0] [rB L s] (RR L (ze9 L (zf3 L rec 5) s)):=by
 have hr:=zP5 L hL s hs om
 have aa:=zl0 hs h2
 have ab:=zb6 (L:=L) s
 have ak:=zh0 (L:=L) (s:=s)
 have ho:=hs.opn
 have hM:ze9 L (zf3 L rec 5) s=if(yE L s).err=0 then((opsF L zm0 (rec 6) L.length (rec 6 (yE L s))).1,outF (opsF L zm0 (rec 6) L.length (rec 6 (yE L s))).2)else(zeroE,outF (yE L s)):=rfl
 generalize ze9 L (zf3 L rec 5) s=M at hM⊢
 generalize yE L s=s1 at hr aa ab ak hM
 have eo:=zE9 (o:=s1.opn) om om
 refine iV 1 func372 ntmps372 results372 fun c hc hb=> ?_
 by_cases q1:s1.err=0
 rotate_left
 .have af:(s1.err==0)=false:=sU q1
  rw[if_neg q1]at hM
  rw[af]at hr
  refine zA ?_
  simp[go_sem]
  refine pR hr ?_
  simp[go_sem,rB,eo]
  exact zz8 (e:=zeroE) (s:=outF s1) hM
 have af:(s1.err==0)=true:=sU q1
 rw[if_pos q1]at hM
 rw[af]at hr
 have hP:=aj (ak q1).2
 have ag:=hP.ok 6 s1 aa ab
 have al:=hP.unary s1 aa ab
 generalize rec 6 s1=x0 at ag al hM
 have ae:=zY3 L hL x0.2 ag.rin zm0 dc
 obtain⟨N,hN⟩:=eX L.length
 rw[hN]at hM
 refine zA ?_
 simp[go_sem]
 refine pR hr ?_
 simp[go_sem]
 refine za8 al cB rd_1 ?_
 simp[go_sem]
 refine pR ae ?_
 simp[go_sem]
 refine zH (S:=PR) [0,2,3,4] (fun x=> [.ptr 0 0,.ptr 1 0,.ptr 2 0,.str (anyF L x.2 zm0)]) (fun x=> [rB L x.2,zB,.box x.1.row]) (fun x=>N - x.2.at_) (fun x=>PI L s1 x/\ ∃n,N<=n+x.2.at_/\((opsF L zm0 (rec 6) n x).1,outF (opsF L zm0 (rec 6) n x).2)=M) hc hb x0 ⟨ag,N,om,hM.symm⟩ ?_ ?_
 .exact at_n 3 (by simp[go_sem,zB]) rfl (by simp[rB,zB,ltOb,ltC,ltK,GExpr.row_eq]) dc (zF sg rfl)
 rintro x ⟨hx,n,hn,hinv⟩
 have ax:=hx.rin.at_
 have ae:=zY3 L hL x.2 hx.rin zm0 dc
 have an:=zr9 L hL x.2 hx.rin
 have ad:=hx.opn
 by_cases q:anyF L x.2 zm0= []
 .have au:M=(x.1,outF x.2):=by
   cases n with
   |zero=>exact hinv.symm
   |succ n=>rw[opsF,if_pos q]at hinv;exact hinv.symm
  have av:IntKind.i64.wrap (x.2.opn - 1)=x.2.opn - 1:=by rw[ad];exact eo
  refine zA ?_
  simp[go_sem,q,rB,av]
  exact wH (s:=outF x.2) au
 obtain⟨n,rfl⟩: ∃m,n=m+1:=⟨n - 1,om⟩
 rw[opsF,if_neg q]at hinv
 have hi:=zD5 q
 have ao:=hx.rin.next hL hi
 have hy:=hP.ok 6 (zJ x.2) ao (by show x.2.opn=_;rw[ad,ab])
 have aq:=hP.unary (zJ x.2) ao (by show x.2.opn=_;rw[ad,ab])
 generalize rec 6 (zJ x.2)=y at hy aq hinv
 have aw:=hy.up
 rw[zb2]at aw
 have hz:PI L s1 (opF (tokF L x.2).place (anyF L x.2 zm0) [x.1,y.1] y.2):=zM7 _ _ hy.rin (by rw[hy.opn];exact ad) (by have:=hx.up;omega) (fun he=>(hx.err (hy.err he).1).1) sM (fun e he=>by
  simp only[Af,Ay,or_false]at he
  rcases he with rfl|rfl
  .exact hx.wide
  .exact hy.wide)
 have ah:=op_w L y.2 (tokF L x.2).place (anyF L x.2 zm0) [x.1,y.1] sM (fun e he=>by
  simp only[Af,Ay,or_false]at he
  rcases he with rfl|rfl
  .exact hx.wide
  .exact hy.wide) (fun he=>by
   have h1:=(hy.err he).2
   have h2:=(hx.err (hy.err he).1).2
   simp only[wI]
   omega)
 have ar:(opF (tokF L x.2).place (anyF L x.2 zm0) [x.1,y.1] y.2).2.at_=y.2.at_:=zP0 _ _ _ _
 generalize opF (tokF L x.2).place (anyF L x.2 zm0) [x.1,y.1] y.2=z at hz ah hinv ar
 have ai:=zY3 L hL z.2 hz.rin zm0 dc
 have ay:=hz.rin.at_
 have hl:=hL.len
 have ei:IntKind.i64.wrap ((x.2.at_:Int)+1)=((x.2.at_+1:Nat):Int):=by rw[i64_id om om];omega
 have q':(anyF L x.2 zm0).isEmpty=false:=sU q
 refine zA ?_
 simp[go_sem,q']
 refine pR an ?_
 simp[go_sem,rB,ei]
 simp only[Ai,Bm,GExpr.row_eq]at ah
 refine za9 [(3,1),(5,3),(7,3)] 1 3 sM kR kR ?_
 simp[go_sem]
 refine zs6 aq cB rd_1 ?_
 simp[go_sem,GExpr.row_eq]
 refine zs6 ah cB (wJ ⟨zC rfl,zC rfl,zL,tV⟩) ?_
 simp[go_sem,GExpr.row_eq]
 refine pR ai ?_
 simp[go_sem]
 refine zG z ⟨om,⟨hz,n,om,hinv⟩, ?_⟩
 exact at_n 3 (by simp[go_sem,rB,zB,GExpr.row_eq]) rfl (by simp[zB,ltOb,ltC,ltK,GExpr.row_eq]) dc (zF sg rfl)
theorem yF9 (L:List GToken) (rec:Nat->RS->PR) (o:Int) (hP:PW L rec o) (s:RS) (hs:RIn L s) (ho:s.opn=o):VCalls prog 335 [.ptr 0 0,.int .i64 0] [rB L s] (RR L (rec 1 s)):=by
 have aa:=hP.chain 1 (A4 _) s hs ho
 generalize rec 1 s=x at aa⊢
 refine iW 1 func335 ntmps335 results335 fun c hc hb=>zK ?_
 simp[go_sem]
 refine za8 aa cB (wJ ⟨zC rfl,tV⟩) ?_
 simp[go_sem,GExpr.row_eq]
 exact wH rfl
theorem yG0 (L:List GToken) (rec:Nat->RS->PR) (o:Int) (hP:PW L rec o) (s:RS) (hs:RIn L s) (ho:s.opn=o):VCalls prog 335 [.ptr 0 0,.int .i64 1] [rB L s] (RR L (rec 2 s)):=by
 have aa:=hP.not s hs ho
 generalize rec 2 s=x at aa⊢
 refine iW 1 func335 ntmps335 results335 fun c hc hb=>zK ?_
 simp[go_sem]
 refine za8 aa cB rd_1 ?_
 simp[go_sem,GExpr.row_eq]
 exact wH rfl
theorem xa1 (L:List GToken) (s:RS) (w:List UInt8) (hw:w≠ []):(anyF L s [w]= []↔isT L w s=false)/\(isT L w s=true->anyF L s [w]=w):=by
 unfold anyF
 cases isT L w s
 .simp[anyF]
 .simp[hw]
theorem xt8 (L:List GToken) (hL:LIn L) (rec:Nat->RS->PR) (s:RS) (hs:RIn L s) (h2:s.opn<=200) (aj:s.opn+1<=200->PW L rec (s.opn+1)):
  VCalls prog 267 [.ptr 0 0,.int .i64 0] [rB L s] (RR L (ze9 L (zf3 L rec 0) s)):=by
 have hr:=zP5 L hL s hs om
 have aa:=zl0 hs h2
 have ab:=zb6 (L:=L) s
 have ak:=zh0 (L:=L) (s:=s)
 have ho:=hs.opn
 have hM:ze9 L (zf3 L rec 0) s=if(yE L s).err=0 then((opsF L [wOR] (rec 1) L.length (rec 1 (yE L s))).1,outF (opsF L [wOR] (rec 1) L.length (rec 1 (yE L s))).2)else(zeroE,outF (yE L s)):=rfl
 generalize ze9 L (zf3 L rec 0) s=M at hM⊢
 generalize yE L s=s1 at hr aa ab ak hM
 have eo:=zE9 (o:=s1.opn) om om
 have ad:=yJ8
 refine iV 1 func267 ntmps267 results267 fun c hc hb=> ?_
 by_cases q1:s1.err=0
 rotate_left
 .have ah:(s1.err==0)=false:=sU q1
  rw[if_neg q1]at hM
  rw[ah]at hr
  refine zA ?_
  simp[go_sem]
  refine pR hr ?_
  simp[go_sem,rB,eo]
  exact zz8 (e:=zeroE) (s:=outF s1) hM
 have ah:(s1.err==0)=true:=sU q1
 rw[if_pos q1]at hM
 rw[ah]at hr
 have hP:=aj (ak q1).2
 have al:=hP.ok 1 s1 aa ab
 have an:=yF9 L rec _ hP s1 aa ab
 generalize rec 1 s1=x0 at al an hM
 obtain⟨N,hN⟩:=eX L.length
 rw[hN]at hM
 refine zA ?_
 simp[go_sem]
 refine pR hr ?_
 simp[go_sem]
 refine za8 an cB (wJ ⟨zC rfl,tV⟩) ?_
 simp[go_sem]
 refine zH (S:=PR) [0,1,4,5] (fun x=> [.ptr 0 0,.int .i64 0,.ptr 1 0,.ptr 2 0]) (fun x=> [rB L x.2,zB,.box x.1.row]) (fun x=>N - x.2.at_) (fun x=>PI L s1 x/\ ∃n,N<=n+x.2.at_/\((opsF L [wOR] (rec 1) n x).1,outF (opsF L [wOR] (rec 1) n x).2)=M) hc hb x0 ⟨al,N,om,hM.symm⟩ ?_ ?_
 .exact at_n 3 (by simp[go_sem,zB]) rfl (by simp[rB,zB,ltOb,ltC,ltK,GExpr.row_eq]) dc (zF sg rfl)
 rintro x ⟨hx,n,hn,hinv⟩
 have a6:=hx.rin.at_
 have ae:=is_w L hL x.2 hx.rin wOR
 have ao:=zr9 L hL x.2 hx.rin
 have af:=hx.opn
 obtain⟨aw,ax⟩:=xa1 L x.2 wOR dc
 by_cases q:isT L wOR x.2=false
 .rw[q]at ae
  have ay:M=(x.1,outF x.2):=by
   cases n with
   |zero=>exact hinv.symm
   |succ n=>rw[opsF,if_pos (aw.2 q)]at hinv;exact hinv.symm
  have az:IntKind.i64.wrap (x.2.opn - 1)=x.2.opn - 1:=by rw[af];exact eo
  refine zA ?_
  simp[go_sem]
  refine pC ad ?_
  simp[go_sem]
  refine pR ae ?_
  simp[go_sem,rB,az]
  exact wH (s:=outF x.2) ay
 have q:isT L wOR x.2=true:=sU q
 rw[q]at ae
 obtain⟨n,rfl⟩: ∃m,n=m+1:=⟨n - 1,om⟩
 have ag:=ax q
 rw[opsF,if_neg (by rw[ag];decide),ag]at hinv
 have aq:=hx.rin.next hL q
 have hy:=hP.ok 1 (zJ x.2) aq (by show x.2.opn=_;rw[af,ab])
 have ar:=yF9 L rec _ hP (zJ x.2) aq (by show x.2.opn=_;rw[af,ab])
 generalize rec 1 (zJ x.2)=y at hy ar hinv
 have a1:=hy.up
 rw[zb2]at a1
 have au: ∀e∈ [x.1,y.1],Wide e:=fun e he=>by
  simp only[Af,Ay,or_false]at he
  rcases he with rfl|rfl
  .exact hx.wide
  .exact hy.wide
 have hz:PI L s1 (opF (tokF L x.2).place wOR [x.1,y.1] y.2):=zM7 _ _ hy.rin (by rw[hy.opn];exact af) (by have:=hx.up;omega) (fun he=>(hx.err (hy.err he).1).1) sM au
 have ai:=op_w L y.2 (tokF L x.2).place wOR [x.1,y.1] sM au (fun he=>by
   have h1:=(hy.err he).2
   have h2:=(hx.err (hy.err he).1).2
   simp only[wI]
   omega)
 have av:(opF (tokF L x.2).place wOR [x.1,y.1] y.2).2.at_=y.2.at_:=zP0 _ _ _ _
 generalize opF (tokF L x.2).place wOR [x.1,y.1] y.2=z at hz ai hinv av
 have a7:=hz.rin.at_
 have hl:=hL.len
 have ei:IntKind.i64.wrap ((x.2.at_:Int)+1)=((x.2.at_+1:Nat):Int):=by rw[i64_id om om];omega
 simp only[Ai,Bm,GExpr.row_eq]at ai
 refine zA ?_
 simp[go_sem]
 refine pC ad ?_
 simp[go_sem]
 refine pR ae ?_
 simp[go_sem]
 refine pR ao ?_
 simp[go_sem,rB,ei]
 refine za9 [(2,0),(11,3),(13,3)] 1 3 sM kR kR ?_
 simp[go_sem]
 refine pD ad ?_
 simp[go_sem]
 refine zs6 ar cB (wJ ⟨zC rfl,tV⟩) ?_
 simp[go_sem,GExpr.row_eq]
 refine zs6 ai cB (wJ ⟨zC rfl,zC rfl,zL,tV⟩) ?_
 simp[go_sem,GExpr.row_eq]
 refine zG z ⟨om,⟨hz,n,om,hinv⟩, ?_⟩
 exact at_n 3 (by simp[go_sem,rB,zB,GExpr.row_eq]) rfl (by simp[zB,ltOb,ltC,ltK,GExpr.row_eq]) dc (zF sg rfl)
theorem xt9 (L:List GToken) (hL:LIn L) (rec:Nat->RS->PR) (s:RS) (hs:RIn L s) (h2:s.opn<=200) (aj:s.opn+1<=200->PW L rec (s.opn+1)):
  VCalls prog 267 [.ptr 0 0,.int .i64 1] [rB L s] (RR L (ze9 L (zf3 L rec 1) s)):=by
 have hr:=zP5 L hL s hs om
 have aa:=zl0 hs h2
 have ab:=zb6 (L:=L) s
 have ak:=zh0 (L:=L) (s:=s)
 have ho:=hs.opn
 have hM:ze9 L (zf3 L rec 1) s=if(yE L s).err=0 then((opsF L [wAND] (rec 2) L.length (rec 2 (yE L s))).1,outF (opsF L [wAND] (rec 2) L.length (rec 2 (yE L s))).2)else(zeroE,outF (yE L s)):=rfl
 generalize ze9 L (zf3 L rec 1) s=M at hM⊢
 generalize yE L s=s1 at hr aa ab ak hM
 have eo:=zE9 (o:=s1.opn) om om
 have ad:=yJ8
 refine iV 1 func267 ntmps267 results267 fun c hc hb=> ?_
 by_cases q1:s1.err=0
 rotate_left
 .have ah:(s1.err==0)=false:=sU q1
  rw[if_neg q1]at hM
  rw[ah]at hr
  refine zA ?_
  simp[go_sem]
  refine pR hr ?_
  simp[go_sem,rB,eo]
  exact zz8 (e:=zeroE) (s:=outF s1) hM
 have ah:(s1.err==0)=true:=sU q1
 rw[if_pos q1]at hM
 rw[ah]at hr
 have hP:=aj (ak q1).2
 have al:=hP.ok 2 s1 aa ab
 have an:=yG0 L rec _ hP s1 aa ab
 generalize rec 2 s1=x0 at al an hM
 obtain⟨N,hN⟩:=eX L.length
 rw[hN]at hM
 refine zA ?_
 simp[go_sem]
 refine pR hr ?_
 simp[go_sem]
 refine za8 an cB (wJ ⟨zC rfl,tV⟩) ?_
 simp[go_sem]
 refine zH (S:=PR) [0,1,4,5] (fun x=> [.ptr 0 0,.int .i64 1,.ptr 1 0,.ptr 2 0]) (fun x=> [rB L x.2,zB,.box x.1.row]) (fun x=>N - x.2.at_) (fun x=>PI L s1 x/\ ∃n,N<=n+x.2.at_/\((opsF L [wAND] (rec 2) n x).1,outF (opsF L [wAND] (rec 2) n x).2)=M) hc hb x0 ⟨al,N,om,hM.symm⟩ ?_ ?_
 .exact at_n 3 (by simp[go_sem,zB]) rfl (by simp[rB,zB,ltOb,ltC,ltK,GExpr.row_eq]) dc (zF sg rfl)
 rintro x ⟨hx,n,hn,hinv⟩
 have a6:=hx.rin.at_
 have ae:=is_w L hL x.2 hx.rin wAND
 have ao:=zr9 L hL x.2 hx.rin
 have af:=hx.opn
 obtain⟨aw,ax⟩:=xa1 L x.2 wAND dc
 by_cases q:isT L wAND x.2=false
 .rw[q]at ae
  have ay:M=(x.1,outF x.2):=by
   cases n with
   |zero=>exact hinv.symm
   |succ n=>rw[opsF,if_pos (aw.2 q)]at hinv;exact hinv.symm
  have az:IntKind.i64.wrap (x.2.opn - 1)=x.2.opn - 1:=by rw[af];exact eo
  refine zA ?_
  simp[go_sem]
  refine pC ad ?_
  simp[go_sem]
  refine pR ae ?_
  simp[go_sem,rB,az]
  exact wH (s:=outF x.2) ay
 have q:isT L wAND x.2=true:=sU q
 rw[q]at ae
 obtain⟨n,rfl⟩: ∃m,n=m+1:=⟨n - 1,om⟩
 have ag:=ax q
 rw[opsF,if_neg (by rw[ag];decide),ag]at hinv
 have aq:=hx.rin.next hL q
 have hy:=hP.ok 2 (zJ x.2) aq (by show x.2.opn=_;rw[af,ab])
 have ar:=yG0 L rec _ hP (zJ x.2) aq (by show x.2.opn=_;rw[af,ab])
 generalize rec 2 (zJ x.2)=y at hy ar hinv
 have a1:=hy.up
 rw[zb2]at a1
 have au: ∀e∈ [x.1,y.1],Wide e:=fun e he=>by
  simp only[Af,Ay,or_false]at he
  rcases he with rfl|rfl
  .exact hx.wide
  .exact hy.wide
 have hz:PI L s1 (opF (tokF L x.2).place wAND [x.1,y.1] y.2):=zM7 _ _ hy.rin (by rw[hy.opn];exact af) (by have:=hx.up;omega) (fun he=>(hx.err (hy.err he).1).1) sM au
 have ai:=op_w L y.2 (tokF L x.2).place wAND [x.1,y.1] sM au (fun he=>by
   have h1:=(hy.err he).2
   have h2:=(hx.err (hy.err he).1).2
   simp only[wI]
   omega)
 have av:(opF (tokF L x.2).place wAND [x.1,y.1] y.2).2.at_=y.2.at_:=zP0 _ _ _ _
 generalize opF (tokF L x.2).place wAND [x.1,y.1] y.2=z at hz ai hinv av
 have a7:=hz.rin.at_
 have hl:=hL.len
 have ei:IntKind.i64.wrap ((x.2.at_:Int)+1)=((x.2.at_+1:Nat):Int):=by rw[i64_id om om];omega
 simp only[Ai,Bm,GExpr.row_eq]at ai
 refine zA ?_
 simp[go_sem]
 refine pC ad ?_
 simp[go_sem]
 refine pR ae ?_
 simp[go_sem]
 refine pR ao ?_
 simp[go_sem,rB,ei]
 refine za9 [(2,0),(11,3),(13,3)] 1 3 sM kR kR ?_
 simp[go_sem]
 refine pD ad ?_
 simp[go_sem]
 refine zs6 ar cB (wJ ⟨zC rfl,tV⟩) ?_
 simp[go_sem,GExpr.row_eq]
 refine zs6 ai cB (wJ ⟨zC rfl,zC rfl,zL,tV⟩) ?_
 simp[go_sem,GExpr.row_eq]
 refine zG z ⟨om,⟨hz,n,om,hinv⟩, ?_⟩
 exact at_n 3 (by simp[go_sem,rB,zB,GExpr.row_eq]) rfl (by simp[zB,ltOb,ltC,ltK,GExpr.row_eq]) dc (zF sg rfl)
theorem yE2 {x:GExpr} (h:Wide x): ∀e∈ [x],Wide e:=fun e he=>by
 simp only[Af,Ay,or_false]at he
 subst he
 exact h
theorem wc9 {x y:GExpr} (h:Wide x) (h2:Wide y): ∀e∈ [x,y],Wide e:=fun e he=>by
 simp only[Af,Ay,or_false]at he
 rcases he with rfl|rfl
 .exact h
 .exact h2
theorem wf4 (L:List GToken) (hL:LIn L) (rec:Nat->RS->PR) (s:RS) (hs:RIn L s) (h2:s.opn<=200) (aj:s.opn+1<=200->PW L rec (s.opn+1)):
  VCalls prog 355 [.ptr 0 0] [rB L s] (RR L (ze9 L (zf3 L rec 2) s)):=by
 have hr:=zP5 L hL s hs om
 have aa:=zl0 hs h2
 have ad:=zb6 (L:=L) s
 have ak:=zh0 (L:=L) (s:=s)
 have ho:=hs.opn
 have hM:ze9 L (zf3 L rec 2) s=if(yE L s).err=0 then((notK L (rec 2) (rec 3) (yE L s)).1,outF (notK L (rec 2) (rec 3) (yE L s)).2)else(zeroE,outF (yE L s)):=rfl
 generalize ze9 L (zf3 L rec 2) s=M at hM⊢
 generalize yE L s=s1 at hr aa ad ak hM
 have eo:=zE9 (o:=s1.opn) om om
 refine iW 1 func355 ntmps355 results355 fun c hc hb=>zK ?_
 by_cases q1:s1.err=0
 rotate_left
 .have ag:(s1.err==0)=false:=sU q1
  rw[if_neg q1]at hM
  rw[ag]at hr
  simp[go_sem]
  refine pR hr ?_
  simp[go_sem,rB,eo]
  exact zz8 (e:=zeroE) (s:=outF s1) hM
 have ag:(s1.err==0)=true:=sU q1
 rw[if_pos q1]at hM
 rw[ag]at hr
 have hP:=aj (ak q1).2
 have af:=zr9 L hL s1 aa
 have ab:=yf2 L hL s1 aa wNOT
 unfold notK at hM
 unfold eatF at ab
 by_cases q:isT L wNOT s1=true
 .rw[if_pos q]at hM
  rw[if_pos q,q]at ab
  have al:=aa.next hL q
  have hy:=hP.ok 2 (zJ s1) al ad
  have ae:=hP.not (zJ s1) al ad
  generalize rec 2 (zJ s1)=y at hy ae hM
  have ah:=op_w L y.2 (tokF L s1).place wNOT [y.1] sM (yE2 hy.wide) (fun he=>by
   have h1:=(hy.err he).2
   simp only[wI]
   omega)
  have an:(opF (tokF L s1).place wNOT [y.1] y.2).2.opn=s1.opn:=by
   show(opS _ _ _ y.2).opn=_
   rw[yd2,hy.opn];rfl
  generalize opF (tokF L s1).place wNOT [y.1] y.2=z at ah hM an
  have ai:IntKind.i64.wrap (z.2.opn - 1)=z.2.opn - 1:=by rw[an];exact eo
  simp only[Ai,Bm,GExpr.row_eq]at ah
  simp[go_sem]
  refine pR hr ?_
  simp[go_sem]
  refine pR af ?_
  simp[go_sem]
  refine pR ab ?_
  simp[go_sem]
  refine za8 ae cB rd_1 ?_
  simp[go_sem,GExpr.row_eq]
  refine za8 ah cB (wJ ⟨zC rfl,zC rfl,zL,tV⟩) ?_
  simp[go_sem,rB,GExpr.row_eq,ai]
  exact wH (s:=outF z.2) hM
 .have q:isT L wNOT s1=false:=sU q
  rw[if_neg (by rw[q];decide)]at hM
  rw[if_neg (by rw[q];decide),q]at ab
  have hy:=hP.ok 3 s1 aa ad
  have ae:=hP.cmp s1 aa ad
  generalize rec 3 s1=z at hy ae hM
  have ai:IntKind.i64.wrap (z.2.opn - 1)=z.2.opn - 1:=by rw[hy.opn];exact eo
  simp[go_sem]
  refine pR hr ?_
  simp[go_sem]
  refine pR af ?_
  simp[go_sem]
  refine pR ab ?_
  simp[go_sem]
  refine za8 ae cB rd_1 ?_
  simp[go_sem,rB,GExpr.row_eq,ai]
  exact wH (s:=outF z.2) hM
theorem xs5 (L:List GToken) (s:RS) (w:List UInt8) (ws:List (List UInt8)) (h:isT L w s=true):anyF L s (w::ws)=w:=by unfold anyF;rw[if_pos h]
theorem xj6 (L:List GToken) (s:RS) (w:List UInt8) (ws:List (List UInt8)) (h:isT L w s=false):anyF L s (w::ws)=anyF L s ws:=by unfold anyF;rw[if_neg (by rw[h];decide)];cases ws<;>rfl
theorem xq0: ∀w∈signsC,w≠ []:=dc
theorem we4 (L:List GToken) (hL:LIn L) (rec:Nat->RS->PR) (s:RS) (hs:RIn L s) (h2:s.opn<=200) (ax:s.opn+1<=200->PW L rec (s.opn+1)):
  VCalls prog 364 [.ptr 0 0] [rB L s] (RR L (ze9 L (zf3 L rec 3) s)):=by
 have hr:=zP5 L hL s hs om
 have ah:=zl0 hs h2
 have ai:=zb6 (L:=L) s
 have ay:=zh0 (L:=L) (s:=s)
 have ho:=hs.opn
 have hM:ze9 L (zf3 L rec 3) s=if(yE L s).err=0 then((cmpJ L (rec 4) (rec 4 (yE L s))).1,outF (cmpJ L (rec 4) (rec 4 (yE L s))).2)else(zeroE,outF (yE L s)):=rfl
 generalize ze9 L (zf3 L rec 3) s=M at hM⊢
 generalize yE L s=s1 at hr ah ai ay hM
 have eo:=zE9 (o:=s1.opn) om om
 refine iV 1 func364 ntmps364 results364 fun c hc hb=> ?_
 by_cases q1:s1.err=0
 rotate_left
 .have av:(s1.err==0)=false:=sU q1
  rw[if_neg q1]at hM
  rw[av]at hr
  refine zA ?_
  simp[go_sem]
  refine pR hr ?_
  simp[go_sem,rB,eo]
  exact zz8 (e:=zeroE) (s:=outF s1) hM
 have av:(s1.err==0)=true:=sU q1
 rw[if_pos q1]at hM
 rw[av]at hr
 have hP:=ax (ay q1).2
 have hx:=hP.ok 4 s1 ah ai
 have ar:=hP.sum s1 ah ai
 generalize rec 4 s1=x at hx ar hM
 have aj:=zr9 L hL x.2 hx.rin
 have aa:=yf2 L hL x.2 hx.rin wIS
 have af:=hx.opn
 unfold cmpJ at hM
 unfold eatF at aa
 by_cases q:isT L wIS x.2=true
 .rw[if_pos q]at hM
  rw[if_pos q,q]at aa
  have ag:=hx.rin.next hL q
  have ab:=yf2 L hL (zJ x.2) ag wNOT
  unfold eatF at ab
  by_cases q2:isT L wNOT (zJ x.2)=true
  .rw[if_pos q2]at hM
   rw[if_pos q2,q2]at ab
   have a7:=ag.next hL q2
   have ak:=zd9 L hL _ a7 zo4
   have al:=zp4 (L:=L) zo4 (zJ (zJ x.2))
   have an:=zj2 (L:=L) (w:=zo4) (s:=zJ (zJ x.2))
   generalize zV L zo4 (zJ (zJ x.2))=u at ak al an hM
   have aw:u.opn=s1.opn:=by rw[al];exact af
   have ae:IntKind.i64.wrap (u.opn - 1)=u.opn - 1:=by rw[aw];exact eo
   have ad:=op_w L (outF u) (tokF L x.2).place zT9 [x.1] sM (yE2 hx.wide) (fun he=>by
    have h1:=(hx.err (an he).1).2
    simp only[wI]
    omega)
   have ao:M=opF (tokF L x.2).place zT9 [x.1] (outF u):=by rw[hM];unfold opF;rw[xf5]
   clear hM
   generalize opF (tokF L x.2).place zT9 [x.1] (outF u)=z at ad ao
   simp only[Ai,Bm,GExpr.row_eq]at ad
   refine zA ?_
   simp[go_sem]
   refine pR hr ?_
   simp[go_sem]
   refine za8 ar cB rd_1 ?_
   simp[go_sem,GExpr.row_eq]
   refine pR aj ?_
   simp[go_sem]
   refine pR aa ?_
   simp[go_sem]
   refine pR ab ?_
   simp[go_sem]
   refine pR ak ?_
   simp[go_sem,rB,ae]
   refine za8 (s:=outF u) ad cB (wJ ⟨zC rfl,zC rfl,zL,tV⟩) ?_
   simp[go_sem,GExpr.row_eq]
   exact wH ao
  .have q2:isT L wNOT (zJ x.2)=false:=sU q2
   rw[if_neg (by rw[q2];decide)]at hM
   rw[if_neg (by rw[q2];decide),q2]at ab
   have ak:=zd9 L hL _ ag zo4
   have al:=zp4 (L:=L) zo4 (zJ x.2)
   have an:=zj2 (L:=L) (w:=zo4) (s:=zJ x.2)
   generalize zV L zo4 (zJ x.2)=u at ak al an hM
   have aw:u.opn=s1.opn:=by rw[al];exact af
   have ae:IntKind.i64.wrap (u.opn - 1)=u.opn - 1:=by rw[aw];exact eo
   have ad:=op_w L (outF u) (tokF L x.2).place ye1 [x.1] sM (yE2 hx.wide) (fun he=>by
    have h1:=(hx.err (an he).1).2
    simp only[wI]
    omega)
   have ao:M=opF (tokF L x.2).place ye1 [x.1] (outF u):=by rw[hM];unfold opF;rw[xf5]
   clear hM
   generalize opF (tokF L x.2).place ye1 [x.1] (outF u)=z at ad ao
   simp only[Ai,Bm,GExpr.row_eq]at ad
   refine zA ?_
   simp[go_sem]
   refine pR hr ?_
   simp[go_sem]
   refine za8 ar cB rd_1 ?_
   simp[go_sem,GExpr.row_eq]
   refine pR aj ?_
   simp[go_sem]
   refine pR aa ?_
   simp[go_sem]
   refine pR ab ?_
   simp[go_sem]
   refine pR ak ?_
   simp[go_sem,rB,ae]
   refine za8 (s:=outF u) ad cB (wJ ⟨zC rfl,zC rfl,zL,tV⟩) ?_
   simp[go_sem,GExpr.row_eq]
   exact wH ao
 have q:isT L wIS x.2=false:=sU q
 rw[if_neg (by rw[q];decide)]at hM
 rw[if_neg (by rw[q];decide),q]at aa
 refine zA ?_
 simp[go_sem]
 refine pR hr ?_
 simp[go_sem]
 refine za8 ar cB rd_1 ?_
 simp[go_sem,GExpr.row_eq]
 refine pR aj ?_
 simp[go_sem]
 refine pR aa ?_
 simp[go_sem]
 refine zH (S:=Nat) [0,2,3,4,5,7] (fun i=> [.ptr 0 0,.ptr 1 0,.ptr 2 0,.int .i64 (tokF L x.2).place,.sl .ro (signsC.map fun w=> [V.str w]),.int .i64 (i:Int)]) (fun _=> [rB L x.2,zB,.box x.1.row]) (fun i=>6 - i) (fun i=>i<=6/\anyF L x.2 (signsC.drop i)=anyF L x.2 signsC) hc hb 0 ⟨A3 _,rfl⟩ ?_ ?_
 .exact at_n 3 (by simp[go_sem,zB,GExpr.row_eq]) rfl (by simp[rB,zB,ltOb,ltC,ltK,GExpr.row_eq]) dc ⟨zp8 (by rfl),zp8 (by rfl),zp8 (by rfl),zC rfl,zL,zC rfl,tV⟩
 rintro i ⟨hi,hinv⟩
 by_cases qi:i<6
 rotate_left
 .obtain rfl:i=6:=om
  have ha:anyF L x.2 signsC= []:=by rw[<-hinv];rfl
  rw[if_pos ha]at hM
  have ae:IntKind.i64.wrap (x.2.opn - 1)=x.2.opn - 1:=by rw[af];exact eo
  refine zA ?_
  simp[go_sem,signsC,rB,ae,GExpr.row_eq]
  exact wH (s:=outF x.2) hM
 have aq:i<signsC.length:=qi
 obtain⟨w,hw⟩:=eX (signsC[i])
 have a8:w∈signsC:=hw▸Ab aq
 have aA:=xq0 w a8
 rw[A5 aq,hw]at hinv
 have aa:=yf2 L hL x.2 hx.rin w
 unfold eatF at aa
 have az:decide ((i:Int)<6)=true:=decide_eq_true om
 have ei:=zS qi dc
 have au:(signsC.length:Int)=6:=rfl
 by_cases qw:isT L w x.2=true
 rotate_left
 .have qw:isT L w x.2=false:=sU qw
  rw[xj6 L x.2 w _ qw]at hinv
  rw[if_neg (by rw[qw];decide),qw]at aa
  refine zA ?_
  simp[go_sem,au,az,aq,hw]
  refine zI om ?_
  simp[go_sem]
  refine pR aa ?_
  simp[go_sem,ei]
  refine zG (i+1) ⟨om,⟨om,hinv⟩, ?_⟩
  exact at_n 3 (by simp[go_sem,rB,zB,GExpr.row_eq]) rfl (by simp[rB,zB,ltOb,ltC,ltK,GExpr.row_eq]) dc (zF sg rfl)
 rw[xs5 L x.2 w _ qw]at hinv
 rw[if_neg (by rw[<-hinv];exact aA),<-hinv]at hM
 rw[if_pos qw,qw]at aa
 have ag:=hx.rin.next hL qw
 have hy:=hP.ok 4 (zJ x.2) ag (by show x.2.opn=_;rw[af,ai])
 have a1:=hP.sum (zJ x.2) ag (by show x.2.opn=_;rw[af,ai])
 generalize rec 4 (zJ x.2)=y at hy a1 hM
 have ad:=op_w L y.2 (tokF L x.2).place w [x.1,y.1] sM (wc9 hx.wide hy.wide) (fun he=>by
   have h1:=(hy.err he).2
   have h2:=(hx.err (hy.err he).1).2
   simp only[wI]
   omega)
 have a6:(opF (tokF L x.2).place w [x.1,y.1] y.2).2.opn=s1.opn:=by
  show(opS _ _ _ y.2).opn=_
  rw[yd2,hy.opn];exact af
 generalize opF (tokF L x.2).place w [x.1,y.1] y.2=z at ad hM a6
 have ae:IntKind.i64.wrap (z.2.opn - 1)=z.2.opn - 1:=by rw[a6];exact eo
 simp only[Ai,Bm,GExpr.row_eq]at ad
 refine zA ?_
 simp[go_sem,au,az,aq,hw]
 refine zI om ?_
 simp[go_sem]
 refine pR aa ?_
 simp[go_sem]
 refine za9 [(8,3),(10,3)] 1 3 sM kR kR ?_
 simp[go_sem,aq,hw]
 refine zs6 a1 cB rd_1 ?_
 simp[go_sem,GExpr.row_eq]
 refine zs6 ad cB (wJ ⟨zC rfl,zC rfl,zL,tV⟩) ?_
 simp[go_sem,rB,GExpr.row_eq,ae]
 exact wH (s:=outF z.2) hM
theorem zT4 (v:GValue):Pure prog 375 [.agg v.row] (.agg (valE v).row):=by
 refine iW 0 func375 ntmps375 results375 fun c hc hb=>zK ?_
 simp[go_sem]
 exact xP (r:= .agg [.int .i64 1,.str [],.int .i64 v.kind,.int .i64 v.n,.str v.s,.sl .ro []]) (zv2 ⟨zU rfl,zU rfl,zU rfl,zU rfl,zU rfl,yX,tV⟩) ⟨rfl,rfl⟩
theorem xK (L:List GToken) (hL:LIn L) (s:RS) (hs:RIn L s) (w:List UInt8) (h:isT L w s=true):VCalls prog 74 [.ptr 0 0,.str w] [rB L s] (fun r σ=>r= .bool true/\σ= [rB L (zJ s)]):=by
 have:=yf2 L hL s hs w
 unfold eatF at this
 rw[if_pos h,h]at this
 exact this
theorem wQ (L:List GToken) (hL:LIn L) (s:RS) (hs:RIn L s) (w:List UInt8) (h:isT L w s=false):VCalls prog 74 [.ptr 0 0,.str w] [rB L s] (fun r σ=>r= .bool false/\σ= [rB L s]):=by
 have:=yf2 L hL s hs w
 unfold eatF at this
 rw[if_neg (by rw[h];decide),h]at this
 exact this
theorem xW3 (L:List GToken) (hL:LIn L) (rec:Nat->RS->PR) (s:RS) (hs:RIn L s) (hP:PW L rec s.opn)
  (hex: ∀s',RIn L s'->s'.opn=s.opn->VCalls prog 210 [.ptr 0 0] [rB L s'] (RR L (rec 0 s'))):
  VCalls prog 374 [.ptr 0 0] [rB L s] (RR L (zy0 L (rec 6) (rec 0) s)):=by
 generalize hM:zy0 L (rec 6) (rec 0) s=M
 unfold zy0 at hM
 have ab:=zr9 L hL s hs
 have an:=hs.at_
 have hl:=hL.len
 have ei:IntKind.i64.wrap ((s.at_:Int)+1)=((s.at_+1:Nat):Int):=by rw[i64_id om om];omega
 have ag:=zO9 L hL s hs
 refine iW 1 func374 ntmps374 results374 fun c hc hb=>zK ?_
 by_cases q1:isT L [45] s=true
 .rw[if_pos q1]at hM
  have ak:=xK L hL s hs _ q1
  have ad:=hs.next hL q1
  have hy:=hP.ok 6 (zJ s) ad rfl
  have ae:=hP.unary (zJ s) ad rfl
  generalize rec 6 (zJ s)=y at hy ae hM
  have ah:=op_w L y.2 (tokF L s).place [78,69,71] [y.1] sM (yE2 hy.wide) (fun he=>by
   have h1:=(hy.err he).2
   simp only[wI]
   omega)
  generalize opF (tokF L s).place [78,69,71] [y.1] y.2=z at ah hM
  simp only[Ai,Bm,GExpr.row_eq]at ah
  simp[go_sem]
  refine pR ab ?_
  simp[go_sem]
  refine pR ak ?_
  simp[go_sem]
  refine za9 [(4,3),(6,3)] 1 3 sM kR kR ?_
  simp[go_sem]
  refine zs6 ae cB rd_1 ?_
  simp[go_sem,GExpr.row_eq]
  refine zs6 ah cB (wJ ⟨zC rfl,zC rfl,zL,tV⟩) ?_
  simp[go_sem,GExpr.row_eq]
  exact wH hM.symm
 have q1:isT L [45] s=false:=sU q1
 rw[if_neg (by rw[q1];decide)]at hM
 have af:=wQ L hL s hs _ q1
 by_cases q2:isT L [40] s=true
 .rw[if_pos q2]at hM
  have aa:=xK L hL s hs _ q2
  have ad:=hs.next hL q2
  have hy:=hP.ok 0 (zJ s) ad rfl
  have ae:=hex (zJ s) ad rfl
  generalize rec 0 (zJ s)=y at hy ae hM
  have al:=zd9 L hL y.2 hy.rin [41]
  generalize zV L [41] y.2=u at al hM
  simp[go_sem]
  refine pR ab ?_
  simp[go_sem]
  refine pR af ?_
  simp[go_sem]
  refine pR aa ?_
  simp[go_sem]
  refine za8 ae cB rd_1 ?_
  simp[go_sem,GExpr.row_eq]
  refine pR al ?_
  simp[go_sem]
  exact wH hM.symm
 have q2:isT L [40] s=false:=sU q2
 rw[if_neg (by rw[q2];decide)]at hM
 have aa:=wQ L hL s hs _ q2
 simp[go_sem]
 refine pR ab ?_
 simp[go_sem]
 refine pR af ?_
 simp[go_sem]
 refine pR aa ?_
 simp[go_sem]
 by_cases q3:isT L [84,82,85,69] s=true
 .rw[if_pos q3]at hM
  have hv:=zT4 ⟨1,1,[]⟩
  simp only[GExpr.row_eq,GValue.row]at hv
  refine pR (xK L hL s hs _ q3) ?_
  simp[go_sem]
  refine pC hv ?_
  simp[go_sem]
  exact wH (e:=valE ⟨1,1,[]⟩) (s:=zJ s) hM.symm
 have q3:isT L [84,82,85,69] s=false:=sU q3
 rw[if_neg (by rw[q3];decide)]at hM
 refine pR (wQ L hL s hs _ q3) ?_
 simp[go_sem]
 by_cases q4:isT L [70,65,76,83,69] s=true
 .rw[if_pos q4]at hM
  have hv:=zT4 ⟨1,0,[]⟩
  simp only[GExpr.row_eq,GValue.row]at hv
  refine pR (xK L hL s hs _ q4) ?_
  simp[go_sem]
  refine pC hv ?_
  simp[go_sem]
  exact wH (e:=valE ⟨1,0,[]⟩) (s:=zJ s) hM.symm
 have q4:isT L [70,65,76,83,69] s=false:=sU q4
 rw[if_neg (by rw[q4];decide)]at hM
 refine pR (wQ L hL s hs _ q4) ?_
 simp[go_sem]
 by_cases q5:isT L zo4 s=true
 .rw[if_pos q5]at hM
  have hv:=zT4 ⟨0,0,[]⟩
  simp only[GExpr.row_eq,GValue.row]at hv
  refine pR (xK L hL s hs _ q5) ?_
  simp[go_sem]
  refine pC hv ?_
  simp[go_sem]
  exact wH (e:=valE ⟨0,0,[]⟩) (s:=zJ s) hM.symm
 have q5:isT L zo4 s=false:=sU q5
 rw[if_neg (by rw[q5];decide)]at hM
 refine pR (wQ L hL s hs _ q5) ?_
 simp[go_sem]
 obtain⟨t,ht⟩:=eX (tokF L s)
 rw[ht]at hM
 rw[ht]
 by_cases q6:t.kind=2
 .rw[if_pos q6]at hM
  have hv:=zT4 ⟨2,t.n,[]⟩
  simp only[GExpr.row_eq,GValue.row]at hv
  have ai:(t.kind==2)=true:=sU q6
  simp[go_sem,ai,rB,ei]
  refine pC hv ?_
  simp[go_sem]
  exact wH (e:=valE ⟨2,t.n,[]⟩) (s:=zJ s) hM.symm
 rw[if_neg q6]at hM
 have ai:(t.kind==2)=false:=sU q6
 simp[go_sem,ai]
 by_cases q7:t.kind=3
 .rw[if_pos q7]at hM
  have hv:=zT4 ⟨3,0,t.s⟩
  simp only[GExpr.row_eq,GValue.row]at hv
  have aj:(t.kind==3)=true:=sU q7
  simp[go_sem,aj,rB,ei]
  refine pC hv ?_
  simp[go_sem]
  exact wH (e:=valE ⟨3,0,t.s⟩) (s:=zJ s) hM.symm
 rw[if_neg q7]at hM
 have aj:(t.kind==3)=false:=sU q7
 simp[go_sem,aj]
 refine pR ag ?_
 simp[go_sem]
 exact zz8 (e:=namE (yO L s).1) (s:=(yO L s).2) hM.symm
theorem xR4 (L:List GToken) (hL:LIn L) (rec:Nat->RS->PR) (s:RS) (hs:RIn L s) (h2:s.opn<=200) (af:s.opn+1<=200->PW L rec (s.opn+1))
  (hex:s.opn+1<=200-> ∀s',RIn L s'->s'.opn=s.opn+1->VCalls prog 210 [.ptr 0 0] [rB L s'] (RR L (rec 0 s'))):
  VCalls prog 373 [.ptr 0 0] [rB L s] (RR L (ze9 L (zf3 L rec 6) s)):=by
 have hr:=zP5 L hL s hs om
 have aa:=zl0 hs h2
 have ad:=zb6 (L:=L) s
 have ag:=zh0 (L:=L) (s:=s)
 have ho:=hs.opn
 have hM:ze9 L (zf3 L rec 6) s=if(yE L s).err=0 then((zy0 L (rec 6) (rec 0) (yE L s)).1,outF (zy0 L (rec 6) (rec 0) (yE L s)).2)else(zeroE,outF (yE L s)):=rfl
 generalize ze9 L (zf3 L rec 6) s=M at hM⊢
 generalize yE L s=s1 at hr aa ad ag hM
 have eo:=zE9 (o:=s1.opn) om om
 refine iW 1 func373 ntmps373 results373 fun c hc hb=>zK ?_
 by_cases q1:s1.err=0
 rotate_left
 .have ae:(s1.err==0)=false:=sU q1
  rw[if_neg q1]at hM
  rw[ae]at hr
  simp[go_sem]
  refine pR hr ?_
  simp[go_sem,rB,eo]
  exact zz8 (e:=zeroE) (s:=outF s1) hM
 have ae:(s1.err==0)=true:=sU q1
 rw[if_pos q1]at hM
 rw[ae]at hr
 have ab:=(ag q1).2
 have hP:PW L rec s1.opn:=by rw[ad];exact af ab
 have hok:=yF7 hL (hP.ok 6) (hP.ok 0) s1 aa rfl
 have ah:=xW3 L hL rec s1 aa hP (fun s' h1 h2=>hex ab s' h1 (by rw[h2,ad]))
 generalize zy0 L (rec 6) (rec 0) s1=z at hok ah hM
 have ai:IntKind.i64.wrap (z.2.opn - 1)=z.2.opn - 1:=by rw[hok.opn];exact eo
 simp[go_sem]
 refine pR hr ?_
 simp[go_sem]
 refine za8 ah cB rd_1 ?_
 simp[go_sem,rB,GExpr.row_eq,ai]
 exact wH (s:=outF z.2) hM
theorem xc0 (L:List GToken) (s:RS) (x:PR) (aa:VCalls prog 267 [.ptr 0 0,.int .i64 0] [rB L s] (RR L x)):VCalls prog 210 [.ptr 0 0] [rB L s] (RR L x):=by
 refine iW 1 func210 ntmps210 results210 fun c hc hb=>zK ?_
 simp[go_sem]
 refine za8 aa cB (wJ ⟨zC rfl,tV⟩) ?_
 simp[go_sem,GExpr.row_eq]
 exact wH rfl
theorem xh2 (L:List GToken) (hL:LIn L): ∀(f:Nat) (o:Int),o<=200->201<=(f:Int)+o->PW L (pF L f) o
 |0,o,h,hf=>by omega
 |f+1,o,h,hf=>by
  have ih: ∀s:RS,s.opn=o->s.opn+1<=200->PW L (pF L f) (s.opn+1):=fun s hs h1=>xh2 L hL f (s.opn+1) h1 (by push_cast at hf;omega)
  have aa: ∀s:RS,s.opn=o->s.opn+1<=200-> ∀s',RIn L s'->s'.opn=s.opn+1->VCalls prog 210 [.ptr 0 0] [rB L s'] (RR L (pF L f 0 s')):=fun s hs h1 s' h2 h3=>xc0 L s' _ ((ih s hs h1).chain 0 (A3 _) s' h2 h3)
  refine⟨fun w s hs ho=>xg0 hL (f+1) w s hs om (by push_cast at hf⊢;omega),fun k hk s hs ho=> ?_,fun s hs ho=> ?_,fun s hs ho=> ?_,fun s hs ho=> ?_,fun s hs ho=> ?_,fun s hs ho=> ?_⟩
  .have hk:k=0∨k=1:=om
   rcases hk with rfl|rfl
   .exact xt8 L hL (pF L f) s hs om (ih s ho)
   .exact xt9 L hL (pF L f) s hs om (ih s ho)
  .exact wf4 L hL (pF L f) s hs om (ih s ho)
  .exact we4 L hL (pF L f) s hs om (ih s ho)
  .exact wg5 L hL (pF L f) s hs om (ih s ho)
  .exact wa6 L hL (pF L f) s hs om (ih s ho)
  .exact xR4 L hL (pF L f) s hs om (ih s ho) (aa s ho)
def exF (L:List GToken) (s:RS):PR:=pF L 201 0 s
theorem xx0 {L:List GToken} (hL:LIn L) {s:RS} (hs:RIn L s) (ho:s.opn=0):PI L s (exF L s):=xg0 hL 201 0 s hs om om
theorem ex_w (L:List GToken) (hL:LIn L) (s:RS) (hs:RIn L s) (ho:s.opn=0):VCalls prog 210 [.ptr 0 0] [rB L s] (RR L (exF L s)):=
 xc0 L s _ ((xh2 L hL 201 0 dc dc).chain 0 (A3 _) s hs ho)
mutual
def zr7:GExpr->Nat
 | .mk _ _ _ args=>zo0 args+1
def zo0:List GExpr->Nat
 | []=>0
 |e::l=>zr7 e+zo0 l
end
variable {e:GExpr}{w:List UInt8}{o:Int}{n:Int}
theorem zJ3 (e:GExpr):zr7 e=zo0 e.args+1:=by cases e;rfl
inductive Good:GExpr->Prop
 |mk (e:GExpr) (hk:i64R e.kind) (hs:e.s.length<=1048576) (hv:e.v.ok) (hn:e.v.s.length<=1048576) (ha: ∀x∈e.args,Good x):Good e
theorem Good.str (h:Good e):e.s.length<=1048576:=by cases h;omega
theorem Good.v (h:Good e):e.v.ok:=by cases h;omega
theorem Good.sub (h:Good e): ∀x∈e.args,Good x:=by cases h;omega
theorem yA6:(⟨0,0,[]⟩:GValue).ok:=⟨dc,dc,dc⟩
theorem xM7 (h:0<=n/\n<=9223372036854775807):(⟨2,n,[]⟩:GValue).ok:=⟨sM,by grind,sM⟩
theorem xR3 {s:List UInt8} (h:s.length<=1048576):(⟨3,0,s⟩:GValue).ok:=⟨sM,sM,by grind[maxLen]⟩
theorem xM0 {a:List GExpr} (h:w.length<=1048576) (ha: ∀x∈a,Good x):Good (opE w a):= .mk _ (by show i64R 3;decide) h yA6 (A3 _) ha
theorem zI2 {v:GValue} (h:v.ok) (h2:v.s.length<=1048576):Good (valE v):= .mk _ (by show i64R 1;decide) (A3 _) h h2 (fun x hx=>by cases hx)
theorem xy2 (h:w.length<=1048576):Good (namE w):= .mk _ (by show i64R 2;decide) h yA6 (A3 _) (fun x hx=>by cases hx)
theorem xy0:Good zeroE:= .mk _ dc dc yA6 dc (fun x hx=>by cases hx)
theorem yz2 {x:GExpr} (h:Good x): ∀e∈ [x],Good e:=(by grind)
theorem xy1 {x y:GExpr} (h:Good x) (h2:Good y): ∀e∈ [x,y],Good e:=(by grind)
structure LGood (L:List GToken):Prop where
 txt: ∀t∈L,t.s.length<=1048576
 num: ∀t∈L,0<=t.n/\t.n<=9223372036854775807
variable {L:List GToken}
theorem zC7 {s:RS} (hs:RIn L s):tokF L s∈L:=by
 unfold tokF
 rw[A8,A0 hs.at_]
 simp
theorem xc9 (hG:LGood L) {s:RS} (hs:RIn L s) (h:isT L w s=true):w.length<=1048576:=by
 have:=hG.txt _ (zC7 hs)
 simp_all[isT]
theorem zj3 (hG:LGood L) {s:RS} (hs:RIn L s):(yO L s).1.length<=1048576:=by
 unfold yO
 split
 .exact hG.txt _ (zC7 hs)
 simp
structure PJ (s:RS) (x:PR):Prop where
 good:Good x.1
 size:x.2.err=0->zr7 x.1+s.at_<=x.2.at_
abbrev PK (L:List GToken) (s:RS) (x:PR):Prop:=PI L s x/\PJ s x
theorem xQ1 (w:List UInt8) (a:List GExpr):zr7 (opE w a)=zo0 a+1:=zJ3 _
theorem yC4 (x:GExpr):zo0 [x]=zr7 x:=by rfl
theorem xE6 (x y:GExpr):zo0 [x,y]=zr7 x+zr7 y:=by rfl
theorem yv6 (h:e.args= []):zr7 e=1:=by rw[zJ3,h];rfl
theorem yq7 {s0 s:RS} (p:Int) {a:List GExpr} (h1:w.length<=1048576) (h2: ∀x∈a,Good x) (h3:s.err=0->zo0 a+1+s0.at_<=s.at_):PJ s0 (opF p w a s):=
 ⟨xM0 h1 h2,fun he=>by
  have h:=yB2 (p:=p) (w:=w) (a:=a) (s:=s) he
  show zr7 (opE w a)+s0.at_<=(opS p w a s).at_
  grind[zP0,xQ1]⟩
theorem yl0 (hL:LIn L) (hG:LGood L) {o:Int} {sub:RS->PR} (ab: ∀s,RIn L s->s.opn=o->PK L s (sub s)) (ws:List (List UInt8)) {s0:RS}: ∀(n:Nat) (x:PR),PK L s0 x->s0.opn=o->PJ s0 (opsF L ws sub n x)
 |0,x,h,_=>h.2
 |n+1,x,h,ho=>by
  have aa:=zL8 hL (fun s h1 h2=>(ab s h1 h2).1) ws 1 x h.1 ho
  unfold opsF
  unfold opsF at aa
  split
  .grind
  rename_i ad
  rw[if_neg ad]at aa
  have hi:=zD5 ad
  have hx:=h.1.opn
  have hy:=ab (zJ x.2) (h.1.rin.next hL hi) (by show x.2.opn=o;omega)
  have hl:=xc9 hG h.1.rin hi
  have aa:PI L s0 (opF (tokF L x.2).place (anyF L x.2 ws) [x.1,(sub (zJ x.2)).1] (sub (zJ x.2)).2):=aa
  refine yl0 hL hG ab ws n _ ⟨aa,yq7 _ hl (xy1 h.2.good hy.2.good) (fun he=> ?_)⟩ ho
  have h1:=hy.2.size he
  have h2:=h.2.size (hy.1.err he).1
  grind[zb2,xE6]
theorem xZ4 (hL:LIn L) (_hG:LGood L) {rn rc:RS->PR} (h1: ∀s,RIn L s->s.opn=o->PK L s (rn s)) (h2: ∀s,RIn L s->s.opn=o->PK L s (rc s)) (s:RS) (hs:RIn L s) (ho:s.opn=o):PJ s (notK L rn rc s):=by
 unfold notK
 split
 .rename_i hi
  have hy:=h1 (zJ s) (hs.next hL hi) ho
  refine yq7 _ dc (yz2 hy.2.good) (fun he=> ?_)
  have h:=hy.2.size he
  grind[zb2,yC4]
 grind
theorem xW7 (hL:LIn L) (hG:LGood L) {sub:RS->PR} (aa: ∀s,RIn L s->s.opn=o->PK L s (sub s)) (s:RS) (ho:s.opn=o) (x:PR) (h:PK L s x):PJ s (cmpJ L sub x):=by
 have hx:=h.1.opn
 unfold cmpJ
 split
 .rename_i hi
  split
  .rename_i ad
   refine yq7 _ dc (yz2 h.2.good) (fun he=> ?_)
   have h1:=h.2.size (zj2 he).1
   grind[zw2,zb2,yC4]
  .refine yq7 _ dc (yz2 h.2.good) (fun he=> ?_)
   have h1:=h.2.size (zj2 he).1
   grind[zw2,zb2,yC4]
 .split
  .grind
  rename_i ab
  have hi:=zD5 ab
  have hy:=aa (zJ x.2) (h.1.rin.next hL hi) (by show x.2.opn=o;omega)
  have hl:=xc9 hG h.1.rin hi
  refine yq7 _ hl (xy1 h.2.good hy.2.good) (fun he=> ?_)
  have h1:=hy.2.size he
  have h2:=h.2.size (hy.1.err he).1
  grind[zb2,xE6]
theorem zK2 {s s2:RS} (ha:e.args= []) (h:Good e) (h2:s2.err=0->s2.at_=s.at_+1):PJ s (e,s2):=⟨h,(by grind[yv6])⟩
theorem xK1 (hL:LIn L) (hG:LGood L) {un ex:RS->PR} (h1: ∀s,RIn L s->s.opn=o->PK L s (un s)) (h2: ∀s,RIn L s->s.opn=o->PK L s (ex s)) (s:RS) (hs:RIn L s) (ho:s.opn=o):PJ s (zy0 L un ex s):=by
 have hm:=zC7 hs
 unfold zy0
 split
 .rename_i hi
  have hy:=h1 (zJ s) (hs.next hL hi) ho
  refine yq7 _ dc (yz2 hy.2.good) (fun he=> ?_)
  have h:=hy.2.size he
  grind[zb2,yC4]
 split
 .rename_i hi
  have hy:=h2 (zJ s) (hs.next hL hi) ho
  refine⟨hy.2.good,fun he=> ?_⟩
  have h:=hy.2.size (zj2 he).1
  grind[zw2,zb2]
 split
 .exact zK2 rfl (zI2 ⟨dc,dc,dc⟩ sM) (fun _=>rfl)
 split
 .exact zK2 rfl (zI2 ⟨dc,dc,dc⟩ sM) (fun _=>rfl)
 split
 .exact zK2 rfl (by simp[zI2,yA6]) (fun _=>rfl)
 split
 .exact zK2 rfl (zI2 (xM7 (hG.num _ hm)) sM) (fun _=>rfl)
 split
 .exact zK2 rfl (zI2 (xR3 (hG.txt _ hm)) (hG.txt _ hm)) (fun _=>rfl)
 .refine zK2 rfl (xy2 (zj3 hG hs)) (fun he=> ?_)
  have hb:=(zW6 he).2
  unfold yO
  rw[if_pos hb]
  rfl
theorem xK2 (hL:LIn L) (hG:LGood L) {rec:Nat->RS->PR} (h: ∀w s,RIn L s->s.opn=o->PK L s (rec w s)): ∀(w:Nat) (s:RS),RIn L s->s.opn=o->PJ s (zf3 L rec w s)
 |0,s,hs,ho=>yl0 hL hG (h 1) _ _ _ (by grind) ho
 |1,s,hs,ho=>yl0 hL hG (h 2) _ _ _ (by grind) ho
 |2,s,hs,ho=>xZ4 hL hG (h 2) (h 3) s hs ho
 |3,s,hs,ho=>xW7 hL hG (h 4) s ho _ (by grind)
 |4,s,hs,ho=>yl0 hL hG (h 5) _ _ _ (by grind) ho
 |5,s,hs,ho=>yl0 hL hG (h 6) _ _ _ (by grind) ho
 |_w+6,s,hs,ho=>xK1 hL hG (h 6) (h 0) s hs ho
theorem xP7 {k:RS->PR} (s:RS) (hk:(yE L s).err=0->PJ (yE L s) (k (yE L s))):PJ s (ze9 L k s):=by
 unfold ze9
 split
 .rename_i he
  have hy:=hk he
  refine⟨hy.good,fun h=> ?_⟩
  have h2:=hy.size h
  rw[zS6]at h2
  exact h2
 .rename_i he
  exact⟨xy0,fun h=>absurd h he⟩
theorem pF_j (hL:LIn L) (hG:LGood L): ∀(f:Nat) (w:Nat) (s:RS),RIn L s->s.opn<=200->201<=(f:Int)+s.opn->PJ s (pF L f w s)
 |0,w,s,hs,h2,hf=>by omega
 |f+1,w,s,hs,h2,hf=>by
  unfold pF
  refine xP7 s (fun he=> ?_)
  have h3:=(zh0 he).2
  exact xK2 hL hG (o:=s.opn+1) (fun w t ht ho=>⟨xg0 hL f w t ht om (by push_cast at hf;omega),pF_j hL hG f w t ht om (by push_cast at hf;omega)⟩) w _ (zl0 hs h2) (zb6 s)
theorem ex_j {L:List GToken} (hL:LIn L) (hG:LGood L) {s:RS} (hs:RIn L s) (ho:s.opn=0):PJ s (exF L s):=pF_j hL hG 201 0 s hs om om
structure UI (L:List GToken) (s s':RS):Prop where
 rin:RIn L s'
 opn:s'.opn=s.opn
 up:s.at_<=s'.at_
 err:s'.err=0->s.err=0
variable {L:List GToken}
theorem UI.refl {s:RS} (h:RIn L s):UI L s s:=⟨h,rfl,A4 _,id⟩
theorem UI.trans {s s2 s3:RS} (h:UI L s s2) (k:UI L s2 s3):UI L s s3:=⟨k.rin,k.opn.trans h.opn,B3 h.up k.up,fun e=>h.err (k.err e)⟩
theorem PI.ui {s:RS} {x:PR} (h:PI L s x):UI L s x.2:=⟨h.rin,h.opn,h.up,fun e=>(h.err e).1⟩
theorem yD (hL:LIn L) (w:List UInt8) {s:RS} (h:RIn L s):UI L s (zV L w s):=⟨zk8 hL h,zp4 w s,zw2 w s,fun e=>(zj2 e).1⟩
theorem zd2 (hL:LIn L) {s:RS} (h:RIn L s):UI L s (yO L s).2:=⟨yL5 hL h,yu1 s,yL6 s,fun e=>(zW6 e).1⟩
theorem yV (hL:LIn L) {s:RS} (h:RIn L s) (hi:isT L w s=true):UI L s (zJ s):=⟨h.next hL hi,rfl,by simp[zJ],id⟩
theorem xc1 (e p:Int) {s:RS} (h:RIn L s) (he:e≠0):UI L s (wM e p s):=⟨yi1 h e p,zB1 e p s,by rw[zH8];exact A4 _,fun q=>absurd q (zm8 he)⟩
theorem yV4 (hL:LIn L) {s:RS} (h:RIn L s):UI L s (numF L s).2:=by
 unfold numF
 split
 .rename_i hb
  unfold numB at hb
  simp only[A1,beq_iff_eq]at hb
  exact⟨hL.next h (by rw[hb.2];decide),rfl,by simp[zJ],id⟩
 .exact xc1 _ _ h dc
def zc0 (L:List GToken) (n most:Int) (b:Bool) (s:RS):RS:=if s.err=0/\most<=n then wM (if b=true then 3 else 13) (tokF L s).place s else s
theorem zn7 {most:Int} {b:Bool} {s:RS} (h:RIn L s):UI L s (zc0 L n most b s):=by
 unfold zc0
 split
 .exact xc1 _ _ h (by split<;>decide)
 .exact UI.refl h
theorem zg8 {most:Int} {b:Bool} {s:RS} (h:(zc0 L n most b s).err=0):s.err=0/\n<most/\zc0 L n most b s=s:=by
 unfold zc0 at h⊢
 split at h
 .exact absurd h (zm8 (by split<;>decide))
 .rename_i hc
  rw[if_neg hc]
  refine⟨h, ?_,rfl⟩
  by_cases q:most<=n
  .exact absurd ⟨h,q⟩ hc
  .omega
theorem yk2 (L:List GToken) (hL:LIn L) (s:RS) (hs:RIn L s) (n most:Int) (b:Bool):VCalls prog 72 [.ptr 0 0,.int .i64 n,.int .i64 most,.bool b] [rB L s] (fun r σ=>r= .bool ((zc0 L n most b s).err==0)/\σ= [rB L (zc0 L n most b s)]):=by
 have ht:=zr9 L hL s hs
 have ae:=zI0 L s 3 (tokF L s).place
 have ad:=zI0 L s 13 (tokF L s).place
 have hM:zc0 L n most b s=if s.err=0/\most<=n then(if b=true then wM 3 (tokF L s).place s else wM 13 (tokF L s).place s)else s:=by unfold zc0;cases b<;>rfl
 generalize zc0 L n most b s=M at hM⊢
 have e3:(wM 3 (tokF L s).place s).err≠0:=zm8 dc
 have af:(wM 13 (tokF L s).place s).err≠0:=zm8 dc
 generalize wM 3 (tokF L s).place s=f3 at*
 generalize wM 13 (tokF L s).place s=f13 at*
 refine iW 1 func72 ntmps72 results72 fun c hc hb=>zK ?_
 simp[go_sem,rB]
 by_cases q1:s.err=0
 rotate_left
 .have aa:(s.err==0)=false:=sU q1
  rw[if_neg (fun h=>q1 h.1)]at hM
  simp[go_sem,aa]
  exact xD (L:=L) (s:=s) (zC rfl) ⟨by rw[hM,aa],by rw[hM];rfl⟩
 have aa:(s.err==0)=true:=sU q1
 by_cases q2:most<=n
 rotate_left
 .have ab:decide (most<=n)=false:=decide_eq_false q2
  rw[if_neg (fun h=>q2 h.2)]at hM
  simp[go_sem,aa,ab]
  exact xD (L:=L) (s:=s) (zC rfl) ⟨by rw[hM,aa],by rw[hM];rfl⟩
 have ab:decide (most<=n)=true:=decide_eq_true q2
 rw[if_pos ⟨q1,q2⟩]at hM
 simp[go_sem,aa,ab]
 refine(A7 b).elim (fun q=> ?_) (fun q=> ?_)
 .rw[if_pos q]at hM
  have ag:(f3.err==0)=false:=sU e3
  subst q
  simp[go_sem]
  refine pR ht ?_
  simp[go_sem]
  refine pR ae ?_
  simp[go_sem,rB]
  exact xD (L:=L) (s:=f3) (zC rfl) ⟨by rw[hM],by rw[hM];rfl⟩
 .rw[if_neg (by rw[q];decide)]at hM
  subst q
  simp[go_sem]
  refine pR ht ?_
  simp[go_sem]
  refine pR ad ?_
  simp[go_sem,rB]
  exact xD (L:=L) (s:=f13) (zC rfl) ⟨by rw[hM],by rw[hM];rfl⟩
def zF9:List UInt8:= [67,79,85,78,84]
def wSUM:List UInt8:= [83,85,77]
def yC3:List (List UInt8):= [[45],[40],[78,79,84],[84,82,85,69],[70,65,76,83,69],[78,85,76,76]]
def begF (L:List GToken) (item:Bool) (s:RS):Bool:=
 ((tokF L s).kind==2||((tokF L s).kind==3||((tokF L s).kind==1&&zi6 (tokF L s).s)))||((item&&(isT L zF9 s||isT L wSUM s))|| !(anyF L s yC3== []))
theorem yF8 (L:List GToken) (hL:LIn L) (s:RS) (hs:RIn L s) (item:Bool):VCalls prog 209 [.ptr 0 0,.bool item] [rB L s] (fun r σ=>r= .bool (begF L item s)/\σ= [rB L s]):=by
 have ht:=zr9 L hL s hs
 have h1:=is_w L hL s hs zF9
 have h2:=is_w L hL s hs wSUM
 have h3:=zY3 L hL s hs yC3 dc
 have ab:=hL.txt _ (zC7 hs)
 have hw:=zX0 (tokF L s).s ab
 generalize hM:begF L item s=M
 unfold begF at hM
 generalize isT L zF9 s=c1 at h1 hM
 generalize isT L wSUM s=c2 at h2 hM
 generalize anyF L s yC3=a at h3 hM
 generalize zi6 (tokF L s).s=b at hw hM
 have ad:(a != [])= !a.isEmpty:=by cases a<;>rfl
 have aa:(a== [])=a.isEmpty:=by cases a<;>rfl
 rw[aa]at hM
 have ret: ∀(r:Bool) (τ:St),r=M->wret (some (.bool r)) 1 (fun r σ=>r= .bool M/\σ= [rB L s]) (rB L s::τ):=fun r τ h=>by subst h;exact xD (zC rfl) ⟨rfl,rfl⟩
 refine iW 1 func209 ntmps209 results209 fun c hc hb=>zK ?_
 simp[go_sem]
 refine pR ht ?_
 simp[go_sem]
 repeat' (first
  |(refine xB (fun q=> ?_) (fun q=> ?_)<;>simp[go_sem,q])
  |(refine zR (fun q=> ?_) (fun q=> ?_)<;>simp[go_sem,q])
  |(refine pC hw ?_;simp[go_sem])
  |(refine pR h1 ?_;simp[go_sem])
  |(refine pR h2 ?_;simp[go_sem])
  |(refine pR h3 ?_;simp[go_sem]))
 all_goals exact ret _ _ (by rw[<-hM];simp_all)
variable {L:List GToken}
def zG1:List UInt8:= [87,72,69,82,69]
def whS (L:List GToken) (s:RS):RS:=if isT L zG1 s=true then(exF L (zJ s)).2 else s
def rowC (e:GExpr):List V:= [.int .i64 e.kind,.str e.s,.int .i64 e.v.kind,.int .i64 e.v.n,.str e.v.s,.sl .ro (e.args.map GExpr.row)]
def whB (L:List GToken) (s:RS) (a b:List V) (o:Ob):Ob:=if isT L zG1 s=true then .box (a++ [.bool true]++rowC (exF L (zJ s)).1++b)else o
theorem zN0 (hL:LIn L) {s:RS} (h:RIn L s) (ho:s.opn=0):UI L s (exF L s).2:=(xx0 hL h ho).ui
theorem yw9 (hL:LIn L) {s:RS} (h:RIn L s) (ho:s.opn=0):UI L s (whS L s):=by
 unfold whS
 split
 .rename_i hi
  exact(yV hL h hi).trans (zN0 hL (h.next hL hi) ho)
 .exact UI.refl h
theorem xS3 (L:List GToken) (hL:LIn L) (s:RS) (hs:RIn L s) (ho:s.opn=0) (τ:St) (j:Nat) (c0 c1 c2 c3 c4 c5 c6 c7 c8 c9 af ag ab ad ae:V) (hj:τ[j]? =some (.box [c0,c1,c2,c3,c4,c5,c6,c7,c8,c9,af,ag,ab,ad,ae])):
  VCalls prog 139 [.ptr 0 0,.ptr (j+1) 0] (rB L s::τ) (fun r σ=>r= .tup []/\σ=rB L (whS L s)::τ.set j (whB L s [c0,c1,c2,c3,c4] [ab,ad,ae] (.box [c0,c1,c2,c3,c4,c5,c6,c7,c8,c9,af,ag,ab,ad,ae]))):=by
 have aj:=(A6.1 hj).1
 have ah:=(A6.1 hj).2
 unfold whS whB
 refine VCalls.intro (τ.length+1) func139 ntmps139 results139 rfl rfl (Ca rfl) fun c hc hb=>zK ?_
 by_cases q:isT L zG1 s=true
 .rw[if_pos q,if_pos q]
  have aa:=xK L hL s hs _ q
  have ai:=ex_w L hL (zJ s) (hs.next hL q) ho
  generalize exF L (zJ s)=y at ai⊢
  simp[go_sem]
  refine pR aa ?_
  simp[go_sem]
  refine za8 ai cB rd_1 ?_
  simp[go_sem,GExpr.row_eq,ah,aj]
  refine yo2 ?_ ⟨rfl, ?_⟩
  .simp
  .simp[go_sem,rowC]
 .have q:isT L zG1 s=false:=sU q
  have aa:=wQ L hL s hs _ q
  rw[if_neg (by rw[q];decide),if_neg (by rw[q];decide)]
  simp[go_sem]
  refine pR aa ?_
  simp[go_sem]
  refine yo2 sM ⟨rfl, ?_⟩
  rw[<-ah,List.set_getElem_self]
def zk4 (L:List GToken) (s:RS):GItem×RS:=
 if isT L zF9 s=true then(⟨3,zeroE⟩,zV L [41] (zV L [42] (zV L [40] (zJ s))))
 else if isT L wSUM s=true then(⟨4,(exF L (zV L [40] (zJ s))).1⟩,zV L [41] (exF L (zV L [40] (zJ s))).2)
 else(⟨2,(exF L s).1⟩,(exF L s).2)
def zl9 (L:List GToken):Nat->List GItem->RS->List GItem×RS
 |0,l,s=>(l,s)
 |n+1,l,s=>
  if(zc0 L l.length 6 (begF L true s) s).err=0 then
   (if isT L [44] (zk4 L s).2=true then zl9 L n (l++ [(zk4 L s).1]) (zJ (zk4 L s).2)else(l++ [(zk4 L s).1],(zk4 L s).2))
  else(l,zc0 L l.length 6 (begF L true s) s)
def zj9 (L:List GToken) (s:RS):List GItem×RS:=if isT L [42] s=true then([⟨1,zeroE⟩],zJ s)else zl9 L 7 [] s
theorem yz9 (hL:LIn L) {s:RS} (h:RIn L s) (ho:s.opn=0):UI L s (zk4 L s).2:=by
 unfold zk4
 split
 .rename_i hi
  have h1:=yV hL h hi
  have h2:=h1.trans (yD hL [40] h1.rin)
  have h3:=h2.trans (yD hL [42] h2.rin)
  exact h3.trans (yD hL [41] h3.rin)
 split
 .rename_i hi
  have h1:=yV hL h hi
  have h2:=h1.trans (yD hL [40] h1.rin)
  have h3:=h2.trans (zN0 hL h2.rin (h2.opn.trans ho))
  exact h3.trans (yD hL [41] h3.rin)
 .exact zN0 hL h ho
theorem xl6 {τ:St} {l:List GItem} {s:RS} {g:Tag} {M:List GItem×RS} (h:(l,s)=M):wret (some (.sl g (l.map GItem.row))) 1 (fun r σ=>r= .sl .ro (M.1.map GItem.row)/\σ= [rB L M.2]) (rB L s::τ):=by
 subst h
 exact xD zL ⟨rfl,rfl⟩
theorem xM9 (L:List GToken) (hL:LIn L) (s0:RS) (al:RIn L s0) (aw:s0.opn=0):VCalls prog 208 [.ptr 0 0] [rB L s0] (fun r σ=>r= .sl .ro ((zj9 L s0).1.map GItem.row)/\σ= [rB L (zj9 L s0).2]):=by
 generalize hM:zj9 L s0=M
 unfold zj9 at hM
 refine iV 1 func208 ntmps208 results208 fun c hc hb=> ?_
 refine zA ?_
 simp[go_sem]
 by_cases q0:isT L [42] s0=true
 .rw[if_pos q0]at hM
  refine pR (xK L hL s0 al _ q0) ?_
  simp[go_sem]
  refine xD (r:= .sl .ro ([(⟨1,zeroE⟩:GItem)].map GItem.row)) ?_ ⟨by rw[<-hM],by rw[<-hM]⟩
  exact zL
 have q0:isT L [42] s0=false:=sU q0
 rw[if_neg (by rw[q0];decide)]at hM
 refine pR (wQ L hL s0 al _ q0) ?_
 simp[go_sem]
 refine zo5 3 7 dc sg ?_
 refine zH (S:=List GItem×RS) [0,3] (fun u=> [.ptr 0 0,.sl (.app 1) (u.1.map GItem.row)]) (fun u=> [rB L u.2,.app u.1.length 7]) (fun u=>7 - u.1.length) (fun u=>u.1.length<=6/\UI L s0 u.2/\zl9 L (7 - u.1.length) u.1 u.2=M) hc hb ([],s0) ⟨A3 _,UI.refl al,hM⟩ ?_ ?_
 .exact aN 2 (by simp[rB,ltOb,ltC,ltK])
 rintro⟨l,s⟩ ⟨hl,hu,hinv⟩
 simp only at hl hu hinv
 have hs:=hu.rin
 have ho:=hu.opn.trans aw
 have ae:=yF8 L hL s hs true
 have ab:=yk2 L hL s hs l.length 6 (begF L true s)
 have an:=zg8 (L:=L) (n:=l.length) (most:=6) (b:=begF L true s) (s:=s)
 rw[show 7 - l.length=(6 - l.length)+1 by omega,zl9]at hinv
 generalize begF L true s=bg at ae ab an hinv
 generalize zc0 L l.length 6 bg s=m at ab an hinv
 by_cases q:m.err=0
 rotate_left
 .have q':(m.err==0)=false:=sU q
  rw[if_neg q]at hinv
  rw[q']at ab
  refine zA ?_
  simp[go_sem]
  refine pR ae ?_
  simp[go_sem]
  refine pR ab ?_
  simp[go_sem]
  exact xl6 hinv
 have q':(m.err==0)=true:=sU q
 obtain⟨he,ax,rfl⟩:=an q
 rw[if_pos q]at hinv
 rw[q']at ab
 have ak:=yz9 hL hs ho
 have ad:=hu.trans ak
 generalize hit:zk4 L m=it at hinv ak ad
 unfold zk4 at hit
 have aa: ∀b,isT L [44] it.2=b->VCalls prog 74 [.ptr 0 0,.str [44]] [rB L it.2] (fun r σ=>r= .bool b/\σ= [rB L (if b=true then zJ it.2 else it.2)]):=fun b hb=>by
  cases b with
  |true=>exact xK L hL it.2 ad.rin _ hb
  |false=>exact wQ L hL it.2 ad.rin _ hb
 by_cases q1:isT L zF9 m=true
 .rw[if_pos q1]at hit
  have ah:=hs.next hL q1
  have ai:=zd9 L hL _ ah [40]
  have af:=zk8 hL (w:= [40]) ah
  generalize zV L [40] (zJ m)=u1 at ai af hit
  have ao:=zd9 L hL _ af [42]
  have aq:=zk8 hL (w:= [42]) af
  generalize zV L [42] u1=u2 at ao aq hit
  have aj:=zd9 L hL _ aq [41]
  generalize zV L [41] u2=u3 at aj hit
  subst hit
  simp only at hinv ad aa
  refine zA ?_
  simp[go_sem]
  refine pR ae ?_
  simp[go_sem]
  refine pR ab ?_
  simp[go_sem]
  refine pR (xK L hL m hs _ q1) ?_
  simp[go_sem]
  refine pR ai ?_
  simp[go_sem]
  refine pR ao ?_
  simp[go_sem]
  refine pR aj ?_
  simp[go_sem]
  refine zI ⟨om,zX rfl⟩ ?_
  simp[go_sem]
  refine(A7 (isT L [44] u3)).elim (fun q2=> ?_) (fun q2=> ?_)
  .rw[if_pos q2]at hinv
   refine pR (aa true q2) ?_
   simp[go_sem]
   refine zG (l++ [⟨3,zeroE⟩],zJ u3) ⟨by simp;omega,⟨by simp;omega,ad.trans (yV hL ad.rin q2),by simp only[Ak,Bf,show 7 - (l.length+1)=6 - l.length by omega];exact hinv⟩, ?_⟩
   exact aM 2 (by simp[rB,ltOb,ltC,ltK]) (zF (by simp[go_sem]<;>exact⟨rfl,rfl,rfl,rfl,rfl,rfl⟩) rfl)
  .rw[if_neg (by rw[q2];decide)]at hinv
   refine pR (aa false q2) ?_
   simp[go_sem]
   exact xD (L:=L) zL ⟨by rw[<-hinv];simp[GItem.row]<;>exact⟨rfl,rfl,rfl,rfl,rfl,rfl⟩,by rw[<-hinv]⟩
 have q1:isT L zF9 m=false:=sU q1
 rw[if_neg (by rw[q1];decide)]at hit
 by_cases ag:isT L wSUM m=true
 .rw[if_pos ag]at hit
  have ah:=hs.next hL ag
  have ai:=zd9 L hL _ ah [40]
  have af:=zk8 hL (w:= [40]) ah
  have ar:=zp4 (L:=L) [40] (zJ m)
  generalize zV L [40] (zJ m)=u1 at ai af ar hit
  have au:u1.opn=0:=by rw[ar];exact ho
  have hx:=ex_w L hL u1 af au
  have av:=(xx0 hL af au).rin
  generalize exF L u1=x at hx av hit
  have aj:=zd9 L hL _ av [41]
  generalize zV L [41] x.2=u3 at aj hit
  subst hit
  simp only at hinv ad aa
  refine zA ?_
  simp[go_sem]
  refine pR ae ?_
  simp[go_sem]
  refine pR ab ?_
  simp[go_sem]
  refine pR (wQ L hL m hs _ q1) ?_
  simp[go_sem]
  refine pR (xK L hL m hs _ ag) ?_
  simp[go_sem]
  refine pR ai ?_
  simp[go_sem]
  refine za8 hx cB rd_1 ?_
  simp[go_sem,GExpr.row_eq]
  refine pR aj ?_
  simp[go_sem]
  refine zI ⟨om,zX rfl⟩ ?_
  simp[go_sem]
  refine(A7 (isT L [44] u3)).elim (fun q2=> ?_) (fun q2=> ?_)
  .rw[if_pos q2]at hinv
   refine pR (aa true q2) ?_
   simp[go_sem]
   refine zG (l++ [⟨4,x.1⟩],zJ u3) ⟨by simp;omega,⟨by simp;omega,ad.trans (yV hL ad.rin q2),by simp only[Ak,Bf,show 7 - (l.length+1)=6 - l.length by omega];exact hinv⟩, ?_⟩
   exact aM 2 (by simp[rB,ltOb,ltC,ltK]) (zF (by simp[go_sem]<;>exact⟨rfl,rfl,rfl,rfl,rfl,rfl⟩) rfl)
  .rw[if_neg (by rw[q2];decide)]at hinv
   refine pR (aa false q2) ?_
   simp[go_sem]
   exact xD (L:=L) zL ⟨by rw[<-hinv];simp[GItem.row]<;>exact⟨rfl,rfl,rfl,rfl,rfl,rfl⟩,by rw[<-hinv]⟩
 have ag:isT L wSUM m=false:=sU ag
 rw[if_neg (by rw[ag];decide)]at hit
 .have hx:=ex_w L hL m hs ho
  generalize exF L m=x at hx hit
  subst hit
  simp only at hinv ad aa
  refine zA ?_
  simp[go_sem]
  refine pR ae ?_
  simp[go_sem]
  refine pR ab ?_
  simp[go_sem]
  refine pR (wQ L hL m hs _ q1) ?_
  simp[go_sem]
  refine pR (wQ L hL m hs _ ag) ?_
  simp[go_sem]
  refine za8 hx cB rd_1 ?_
  simp[go_sem,GExpr.row_eq]
  refine zI ⟨om,zX rfl⟩ ?_
  simp[go_sem]
  refine(A7 (isT L [44] x.2)).elim (fun q2=> ?_) (fun q2=> ?_)
  .rw[if_pos q2]at hinv
   refine pR (aa true q2) ?_
   simp[go_sem]
   refine zG (l++ [⟨2,x.1⟩],zJ x.2) ⟨by simp;omega,⟨by simp;omega,ad.trans (yV hL ad.rin q2),by simp only[Ak,Bf,show 7 - (l.length+1)=6 - l.length by omega];exact hinv⟩, ?_⟩
   exact aM 2 (by simp[rB,ltOb,ltC,ltK]) (zF (by simp[go_sem]<;>exact⟨rfl,rfl,rfl,rfl,rfl,rfl⟩) rfl)
  .rw[if_neg (by rw[q2];decide)]at hinv
   refine pR (aa false q2) ?_
   simp[go_sem]
   exact xD (L:=L) zL ⟨by rw[<-hinv];simp[GItem.row]<;>exact⟨rfl,rfl,rfl,rfl,rfl,rfl⟩,by rw[<-hinv]⟩
variable {L:List GToken}
def whE (L:List GToken) (s:RS):Bool×GExpr:=if isT L zG1 s=true then(true,(exF L (zJ s)).1)else(false,zeroE)
theorem wc8 (L:List GToken) (s:RS) (a b:List V): ∃g:Tag,whB L s a b (.box (a++ [.bool false,.int .i64 0,.str [],.int .i64 0,.int .i64 0,.str [],.sl .full []]++b))=
  .box (a++ [.bool (whE L s).1,.int .i64 (whE L s).2.kind,.str (whE L s).2.s,.int .i64 (whE L s).2.v.kind,.int .i64 (whE L s).2.v.n,.str (whE L s).2.v.s,.sl g ((whE L s).2.args.map GExpr.row)]++b):=by
 unfold whB whE
 by_cases q:isT L zG1 s=true
 .exact⟨.ro,by rw[if_pos q,if_pos q];simp[rowC]⟩
 .exact⟨.full,by rw[if_neg q,if_neg q];rfl⟩
theorem yo1 (L:List GToken) (hL:LIn L) (s:RS) (hs:RIn L s) (ho:s.opn=0) (τ:St) (j:Nat) (c0 c1 c2 c3 c4 aa ab ad:V) (hj:τ[j]? =some (.box [c0,c1,c2,c3,c4,.bool false,.int .i64 0,.str [],.int .i64 0,.int .i64 0,.str [],.sl .full [],aa,ab,ad])):
  ∃g:Tag,VCalls prog 139 [.ptr 0 0,.ptr (j+1) 0] (rB L s::τ) (fun r σ=>r= .tup []/\σ=rB L (whS L s)::τ.set j (.box [c0,c1,c2,c3,c4,.bool (whE L s).1,.int .i64 (whE L s).2.kind,.str (whE L s).2.s,.int .i64 (whE L s).2.v.kind,.int .i64 (whE L s).2.v.n,.str (whE L s).2.v.s,.sl g ((whE L s).2.args.map GExpr.row),aa,ab,ad])):=by
 obtain⟨g,hg⟩:=wc8 L s [c0,c1,c2,c3,c4] [aa,ab,ad]
 refine⟨g, ?_⟩
 have:=xS3 L hL s hs ho τ j c0 c1 c2 c3 c4 _ _ _ _ _ _ _ aa ab ad hj
 simp only[Ax,Bi]at hg
 rw[hg]at this
 exact this
def zx5:List UInt8:= [70,82,79,77]
def yn6:List UInt8:= [79,82,68,69,82]
def wBY:List UInt8:= [66,89]
def wASC:List UInt8:= [65,83,67]
def xi8:List UInt8:= [68,69,83,67]
def zA7:List UInt8:= [76,73,77,73,84]
def zw6 (L:List GToken) (s:RS):(List UInt8×Bool)×RS:=
 if isT L yn6 s=true then
  if isT L wASC (yO L (zV L wBY (zJ s))).2=true then(((yO L (zV L wBY (zJ s))).1,false),zJ (yO L (zV L wBY (zJ s))).2)
  else if isT L xi8 (yO L (zV L wBY (zJ s))).2=true then(((yO L (zV L wBY (zJ s))).1,true),zJ (yO L (zV L wBY (zJ s))).2)
  else(((yO L (zV L wBY (zJ s))).1,false),(yO L (zV L wBY (zJ s))).2)
 else(([],false),s)
def zv8 (L:List GToken) (s:RS):Int×RS:=if isT L zA7 s=true then numF L (zJ s)else(-1,s)
theorem yl1 (hL:LIn L) {s:RS} (h:RIn L s):UI L s (zw6 L s).2:=by
 unfold zw6
 split
 .rename_i hi
  have h1:=yV hL h hi
  have h2:=h1.trans (yD hL wBY h1.rin)
  have h3:=h2.trans (zd2 hL h2.rin)
  split
  .exact h3.trans (yV hL h3.rin ‹_›)
  split
  .exact h3.trans (yV hL h3.rin ‹_›)
  .exact h3
 .exact UI.refl h
theorem yK0 (hL:LIn L) {s:RS} (h:RIn L s):UI L s (zv8 L s).2:=by
 unfold zv8
 split
 .rename_i hi
  have h1:=yV hL h hi
  exact h1.trans (yV4 hL h1.rin)
 .exact UI.refl h
def zf0 (L:List GToken) (s:RS):GStmt×RS:=
 let x:=zj9 L s
 let n:=yO L (zV L zx5 x.2)
 let w:=whE L n.2
 let o:=zw6 L (whS L n.2)
 let l:=zv8 L o.2
 (⟨1,n.1,x.1,[],[],w.1,w.2,o.1.1,o.1.2,l.1⟩,l.2)
theorem yt5 (hL:LIn L): ∀(n:Nat) (l:List GItem) (s:RS),RIn L s->s.opn=0->UI L s (zl9 L n l s).2
 |0,_,_,h,_=>UI.refl h
 |n+1,l,s,h,ho=>by
  unfold zl9
  split
  .rename_i he
   have h1:=yz9 hL h ho
   split
   .have h2:=h1.trans (yV hL h1.rin ‹_›)
    exact h2.trans (yt5 hL n _ _ h2.rin (h2.opn.trans ho))
   .exact h1
  .exact zn7 h
theorem yj2 (hL:LIn L) {s:RS} (h:RIn L s) (ho:s.opn=0):UI L s (zj9 L s).2:=by
 unfold zj9
 split
 .exact yV hL h ‹_›
 .exact yt5 hL 7 [] s h ho
def RT (L:List GToken) (x:GStmt×RS):V->St->Prop:=fun r σ=>r= .agg x.1.row/\σ= [rB L x.2]
theorem zh6 {g1 g2 g3 g4:Tag} {τ:St} {st:GStmt} {s:RS} {M:GStmt×RS} (h:(st,s)=M):
  wret (some (.agg [.int .i64 st.kind,.str st.table,.sl g1 (st.items.map GItem.row),.sl g2 (st.rows.map fun l=> [V.sl .ro (l.map GExpr.row)]),.sl g3 (st.sets.map GAssign.row),.bool st.filtered,.int .i64 st.where_.kind,.str st.where_.s,.int .i64 st.where_.v.kind,.int .i64 st.where_.v.n,.str st.where_.v.s,.sl g4 (st.where_.args.map GExpr.row),.str st.order,.bool st.down,.int .i64 st.limit])) 1 (RT L M) (rB L s::τ):=by
 subst h
 exact xD (L:=L) (r:= .agg st.row) (zv2 ⟨zU rfl,zU rfl,yX,yX,yX,zU rfl,zU rfl,zU rfl,zU rfl,zU rfl,zU rfl,yX,zU rfl,zU rfl,zU rfl,tV⟩) ⟨rfl,rfl⟩
theorem yk5 (st:GStmt):noS (.agg st.row)=true:=rfl
theorem xp9 (L:List GToken) (hL:LIn L) (s:RS) (hs:RIn L s) (ho:s.opn=0):VCalls prog 135 [.ptr 0 0] [rB L s] (RT L (zf0 L s)):=by
 generalize hM:zf0 L s=M
 unfold zf0 at hM
 have hx:=xM9 L hL s hs ho
 have af:=yj2 hL hs ho
 generalize zj9 L s=x at hx af hM
 obtain⟨xl,s1⟩:=x
 simp only at hx af hM
 have hm:=zd9 L hL s1 af.rin zx5
 have ag:=af.trans (yD hL zx5 af.rin)
 generalize zV L zx5 s1=s2 at hm ag hM
 have hn:=zO9 L hL s2 ag.rin
 have ad:=ag.trans (zd2 hL ag.rin)
 generalize yO L s2=n at hn ad hM
 obtain⟨nm,s3⟩:=n
 simp only at hn ad hM
 obtain⟨gw,hw⟩:=yo1 L hL s3 ad.rin (ad.opn.trans ho) [.box [.int .i64 0,.str [],.sl .full [],.sl .full [],.sl .full [],.bool false,.int .i64 0,.str [],.int .i64 0,.int .i64 0,.str [],.sl .full [],.str [],.bool false,.int .i64 0],.box [.int .i64 1,.str nm,.sl .ro (xl.map GItem.row),.sl .full [],.sl .full [],.bool false,.int .i64 0,.str [],.int .i64 0,.int .i64 0,.str [],.sl .full [],.str [],.bool false,.int .i64 (-1)]] 1 _ _ _ _ _ _ _ _ rfl
 have ae:=ad.trans (yw9 hL ad.rin (ad.opn.trans ho))
 generalize whS L s3=s4 at hw ae hM
 generalize whE L s3=w at hw hM
 obtain⟨wb,we⟩:=w
 simp only[Bs,Cr]at hw hM
 have ah:=yl1 hL ae.rin
 generalize hO:zw6 L s4=o at ah hM
 obtain⟨⟨on,od⟩,s5⟩:=o
 simp only at ah hM
 have aa:=ae.trans ah
 generalize hl:zv8 L s5=l at hM
 obtain⟨ll,s6⟩:=l
 simp only at hM
 unfold zw6 at hO
 unfold zv8 at hl
 refine iW 1 func135 ntmps135 results135 fun c hc hb=>zK ?_
 simp[go_sem]
 refine pR hx ?_
 simp[go_sem]
 refine pR hm ?_
 simp[go_sem]
 refine pR hn ?_
 simp[go_sem]
 refine zD2 hw cB ?_
 rintro r σ ⟨rfl,rfl⟩ _
 simp[go_sem]
 by_cases qO:isT L yn6 s4=true
 rotate_left
 .have qO:isT L yn6 s4=false:=sU qO
  rw[if_neg (by rw[qO];decide)]at hO
  obtain⟨⟨rfl,rfl⟩,rfl⟩:([]=on/\false=od)/\s4=s5:=sU hO
  refine pR (wQ L hL s4 ae.rin _ qO) ?_
  simp[go_sem]
  by_cases qL:isT L zA7 s4=true
  .rw[if_pos qL]at hl
   have ab:=yu2 L hL (zJ s4) (aa.rin.next hL qL)
   rw[hl]at ab
   refine pR (xK L hL s4 aa.rin _ qL) ?_
   simp[go_sem]
   refine pR ab ?_
   simp[go_sem]
   exact zh6 (st:=⟨1,nm,xl,[],[],wb,we,_,_,ll⟩) hM
  .have qL:isT L zA7 s4=false:=sU qL
   rw[if_neg (by rw[qL];decide)]at hl
   obtain⟨rfl,rfl⟩: -1=ll/\s4=s6:=sU hl
   refine pR (wQ L hL s4 aa.rin _ qL) ?_
   simp[go_sem]
   exact zh6 (st:=⟨1,nm,xl,[],[],wb,we,_,_,-1⟩) hM
 rw[if_pos qO]at hO
 have h1:=yV hL ae.rin qO
 have ak:=zd9 L hL _ h1.rin wBY
 have h2:=yD hL wBY h1.rin
 generalize zV L wBY (zJ s4)=t1 at ak h2 hO
 have ai:=zO9 L hL _ h2.rin
 have h3:=zd2 hL h2.rin
 generalize yO L t1=n2 at ai h3 hO
 obtain⟨aj,t2⟩:=n2
 simp only at ai h3 hO
 refine pR (xK L hL s4 ae.rin _ qO) ?_
 simp[go_sem]
 refine pR ak ?_
 simp[go_sem]
 refine pR ai ?_
 simp[go_sem]
 by_cases qA:isT L wASC t2=true
 .rw[if_pos qA]at hO
  obtain⟨⟨rfl,rfl⟩,rfl⟩:(aj=on/\false=od)/\zJ t2=s5:=sU hO
  refine pR (xK L hL t2 h3.rin _ qA) ?_
  simp[go_sem]
  by_cases qL:isT L zA7 (zJ t2)=true
  .rw[if_pos qL]at hl
   have ab:=yu2 L hL (zJ (zJ t2)) (aa.rin.next hL qL)
   rw[hl]at ab
   refine pR (xK L hL (zJ t2) aa.rin _ qL) ?_
   simp[go_sem]
   refine pR ab ?_
   simp[go_sem]
   exact zh6 (st:=⟨1,nm,xl,[],[],wb,we,_,_,ll⟩) hM
  .have qL:isT L zA7 (zJ t2)=false:=sU qL
   rw[if_neg (by rw[qL];decide)]at hl
   obtain⟨rfl,rfl⟩: -1=ll/\(zJ t2)=s6:=sU hl
   refine pR (wQ L hL (zJ t2) aa.rin _ qL) ?_
   simp[go_sem]
   exact zh6 (st:=⟨1,nm,xl,[],[],wb,we,_,_,-1⟩) hM
 have qA:isT L wASC t2=false:=sU qA
 rw[if_neg (by rw[qA];decide)]at hO
 refine pR (wQ L hL t2 h3.rin _ qA) ?_
 simp[go_sem]
 by_cases qD:isT L xi8 t2=true
 .rw[if_pos qD]at hO
  obtain⟨⟨rfl,rfl⟩,rfl⟩:(aj=on/\true=od)/\zJ t2=s5:=sU hO
  refine pR (xK L hL t2 h3.rin _ qD) ?_
  simp[go_sem]
  by_cases qL:isT L zA7 (zJ t2)=true
  .rw[if_pos qL]at hl
   have ab:=yu2 L hL (zJ (zJ t2)) (aa.rin.next hL qL)
   rw[hl]at ab
   refine pR (xK L hL (zJ t2) aa.rin _ qL) ?_
   simp[go_sem]
   refine pR ab ?_
   simp[go_sem]
   exact zh6 (st:=⟨1,nm,xl,[],[],wb,we,_,_,ll⟩) hM
  .have qL:isT L zA7 (zJ t2)=false:=sU qL
   rw[if_neg (by rw[qL];decide)]at hl
   obtain⟨rfl,rfl⟩: -1=ll/\(zJ t2)=s6:=sU hl
   refine pR (wQ L hL (zJ t2) aa.rin _ qL) ?_
   simp[go_sem]
   exact zh6 (st:=⟨1,nm,xl,[],[],wb,we,_,_,-1⟩) hM
 .have qD:isT L xi8 t2=false:=sU qD
  rw[if_neg (by rw[qD];decide)]at hO
  obtain⟨⟨rfl,rfl⟩,rfl⟩:(aj=on/\false=od)/\t2=s5:=sU hO
  refine pR (wQ L hL t2 h3.rin _ qD) ?_
  simp[go_sem]
  by_cases qL:isT L zA7 t2=true
  .rw[if_pos qL]at hl
   have ab:=yu2 L hL (zJ t2) (aa.rin.next hL qL)
   rw[hl]at ab
   refine pR (xK L hL t2 aa.rin _ qL) ?_
   simp[go_sem]
   refine pR ab ?_
   simp[go_sem]
   exact zh6 (st:=⟨1,nm,xl,[],[],wb,we,_,_,ll⟩) hM
  .have qL:isT L zA7 t2=false:=sU qL
   rw[if_neg (by rw[qL];decide)]at hl
   obtain⟨rfl,rfl⟩: -1=ll/\t2=s6:=sU hl
   refine pR (wQ L hL t2 aa.rin _ qL) ?_
   simp[go_sem]
   exact zh6 (st:=⟨1,nm,xl,[],[],wb,we,_,_,-1⟩) hM
end Go.Proofs.YtefbicjgbaaieaaGreat
