/-
  The law's story and ExecTexts; used by the theorems at the end of the Exec claims.
  Conditions: as each theorem states them.
-/
import Derived.Test.YtefbicjgbaaieaaGreatLAU
set_option maxHeartbeats 8000000
namespace Go.Proofs.YtefbicjgbaaieaaGreat
open Go Go.Vx R Go.Proofs.Tryz
set_option maxRecDepth 100000
noncomputable def WA(P:List (List Pr))(Pw:List fh):List (List Pr):=pM P (oP (oH (EK Pw)).1 (yI (fm 0 P)))
noncomputable def IB(l:List (List fh)):List (List Pr):=l.foldl WA P0
theorem wf5(l:List (List fh))(hl:l.length<=30)(cK:∀x∈l,x.length<=maxLen/\∀a∈x,a.ok):bL prog 18 [.sl .ro (l.map IA)] [] (λr s=>r=.ptr 0 0/\∃P,(qn (240*l.length) P/\P=IB l)/\s=[.box (xY P)]):=by
 have av:=Pu;refine iV 0 func18 ntmps18 results18 λc hc hb=>?_;refine zA ?_;simp[go_sem];refine xV7 ?_;refine zG (S:=Nat×List (List Pr)) [0,3,4] (λu=>[.sl .ro (l.map IA),.ptr 0 0,.int .i64 u.1]) (λu=>[.box (xY u.2)]) (λu=>l.length-u.1) (λu=>u.1<=l.length/\qn (240*u.1) u.2/\u.2=IB (l.take u.1)) hc hb (0,P0) ⟨A3 _,wv0,rfl⟩ ?_ ?_;.exact aM 1 (by rw[Aq,BP];rfl) (zC (by simp[go_sem,xJ5,xJ6,wa0]) rfl)
 rintro⟨i,P⟩⟨hi,hS,hP⟩;simp only at hi hS hP;by_cases q:i<l.length;rotate_left;.have e:i=l.length:=om;rw[e]at hS;rw[Ac om]at hP;refine zA ?_;simp[go_sem,q];exact qI 1 rfl (by simp[BP]) dc (o7 rfl) ⟨rfl,P,⟨hS,hP⟩,rfl⟩
 have ei:=zR q om;obtain⟨aa,hx⟩:∃x,l[i]=x:=⟨_,rfl⟩;obtain⟨aw,al⟩:=cK aa (hx▸A7 q);have ad:=wr2 aa aw al;have an:=xC6 al;obtain⟨tx,ah⟩:=eX (EK aa);rw[ah]at ad an;have af:=NF tx (Ao an dc);have ae:=NI tx;obtain⟨L,hL⟩:=eX ((oH tx).1);rw[hL]at af ae;have hn:240*i<=7500:=om;have ag:=Wy P hS.eight;obtain⟨v1,v2,v3,v4⟩:=hS.vs hn;have ab:=Ph L ae (fm 0 P) om (λx hx=>⟨(v2 x hx).1,by have:=(v2 x hx).2.1;omega,(v2 x hx).2.2⟩) v4;rw[Pv]at ab;obtain⟨ao,aq,ai⟩:=yY4 hS hn ae;have aj:=xC3 P hS.eight (hS.small hn) _ ao aq;obtain⟨A,hA⟩:=eX ((ee L (yI (fm 0 P))).1);obtain⟨uU,hU⟩:=eX (oP L (yI (fm 0 P)));rw[hA,hU]at ab;rw[hU]at aj ai;obtain⟨P2,ak⟩:=eX (pM P uU);rw[ak]at aj ai;have ar:P2=IB (l.take (i+1)):=by unfold IB;rw[B3 q,hx,Bv,<-ak,<-hU,<-hL,<-ah];show _=WA (IB (l.take i)) aa;rw[<-hP];rfl
 obtain⟨vs,au⟩:=eX (fm 0 P);rw[au]at ag ab;clear hA hU ak au ao aq v1 v2 v3 v4 hL ah;refine zA ?_;simp[go_sem,q];refine yB [(0,0),(5,0),(6,0),(8,1),(9,0)] 1 rfl kR kR ?_;simp[go_sem];refine pD av ?_;simp[go_sem,q,hx,IA];refine pD ad ?_;simp[go_sem];refine pD af ?_;simp[go_sem];refine VI 1 ag cB rfl rfl (by rw[Aq,BP];rfl) rfl (λi hi=>by simp[go_sem];omega) (λ_=>pa (n:=1) rfl) ?_;simp[go_sem];refine pD ab ?_;simp[go_sem,fU];refine sf 1 aj cB rfl rfl (by rw[Aq,BP];rfl) (pa (n:=1) rfl) ?_ ?_;.rintro r s'⟨rfl,rfl⟩;exact⟨rfl,by rw[Aq,BP];rfl,rfl⟩
 rintro r s'⟨rfl,rfl⟩;simp[go_sem,ei];exact zH (i+1,P2) ⟨by show l.length-(i+1)<l.length-i;omega,⟨q,by rw[show 240*(i+1)=240*i+240by omega];exact ai,ar⟩,aN 1 (by rw[Aq,BP];rfl)⟩
theorem wf6(l:List (List fh))(hl:l.length<=30)(cK:∀x∈l,x.length<=maxLen/\∀a∈x,a.ok):bL prog 18 [.sl .ro (l.map IA)] [] (λr s=>r=.ptr 0 0/\∃P,qn (240*l.length) P/\s=[.box (xY P)]):=(wf5 l hl cK).mono λ_ _⟨h1,P,h2,h3⟩=>⟨h1,P,h2.1,h3⟩
theorem yQ2(l:List (List fh))(cK:∀x∈l,x.length<=maxLen/\∀a∈x,a.ok)(text:aij)(ht:text.length<=maxLen):Pure prog 4 [.sl .ro (l.map IA),.str text] (.bool true):=by
 have af:=xu5;have aa:=NF text ht;have ab:=NI text;obtain⟨L,hL⟩:=eX ((oH text).1);rw[hL]at aa ab;clear hL;refine iV 0 func4 ntmps4 results4 λc hc hb=>?_;refine zA ?_;simp[go_sem];refine pC af ?_;simp[go_sem];by_cases ai:l.length<=15;rotate_left;.have q:15<(l.length:Int):=om;simp[go_sem,q];exact wR
 have q:¬15<(l.length:Int):=om;by_cases qt:text.length<=2000;rotate_left;.have ad:2000<(text.length:Int):=om;simp[go_sem,q,ad];exact wR
 have ad:¬2000<(text.length:Int):=om;have ah:=wf6 l om cK;simp[go_sem,q,ad];refine FG ah cB ⟨zP,tV⟩ ?_;rintro r s⟨rfl,P,hS,rfl⟩;have hn:240*l.length<=7500:=om;have ag:=Wy P hS.eight;obtain⟨v1,v2,v3,v4⟩:=hS.vs hn;have ae:=wq7 L ab (fm 0 P) om v3 (λx hx=>⟨(v2 x hx).1,by have:=(v2 x hx).2.1;omega,(v2 x hx).2.2⟩) v4;simp[go_sem];refine pC aa ?_;simp[go_sem];refine sf 1 ag cB rfl rfl (by rw[Aq,BP];rfl) (pa (n:=1) rfl) ?_ ?_;.rintro r s'⟨rfl,rfl⟩;exact⟨rfl,by rw[Aq,BP];rfl,rfl⟩
 rintro r s'⟨rfl,rfl⟩;simp[go_sem];refine pC ae ?_;simp[go_sem,fU];exact wR
end Go.Proofs.YtefbicjgbaaieaaGreat
