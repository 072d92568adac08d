/-
  TxnStamps: a transaction's time; used by the theorem at the end of the claim.
  Conditions: as each theorem states them.
-/
import Derived.Test.YtplackkccmeioaaGreatKBAS
set_option maxHeartbeats 8000000
namespace Go.Proofs.YtplackkccmeioaaGreat
open Go Go.Vx R Go.Proofs.Tryz
set_option maxRecDepth 100000
def uV (s:fh):List V:= [.int .i64 s.wall,.int .i64 s.tie]
theorem Ia (t:Tx) (s:fh):([.box eN,.box t.row,.box (uV s)]:St).all (bT 3)=true:=by simp[bT,cQ,cL,eN,uV,Tx.row]
theorem SI.fin {L:dR} {bQ:Int} {t:Tx} {last:fh} (h:SI L bQ t last):bQ<=t.at_.wall\/t.gW.1≠0:=by
 rcases h.st with h|h
 .exact h.2
 .refine .inl ?_
  rw[h.at_]
  exact(Ee bQ t.bump).1
theorem wr4 (a:cV) {w:Int} (hw:0<=w/\w<1000):eZ (xS a w):=by
 unfold xS
 split
 .exact⟨⟨A4 _,λp hp=>by cases hp⟩,by show dp w;unfold dp;omega,wo9⟩
 .exact O6
def Ib (x:Int):Int:=IntKind.i64.wrap ((IntKind.u64.wrap x).tmod 1000)
theorem xQ2 (x:Int):0<=Ib x/\Ib x<1000:=by
 have h0:0<=IntKind.u64.wrap x:=by rw[IntKind.wrap_u64];omega
 have h1:0<=(IntKind.u64.wrap x).tmod 1000:=Int.tmod_nonneg _ h0
 have h2:(IntKind.u64.wrap x).tmod 1000<1000:=Int.tmod_lt_of_pos _ dC
 unfold Ib
 rw[bX om om]
 exact⟨h1,h2⟩
theorem xN6 (l:List gz) (hl:l.length<=maxLen) (cN: ∀a∈l,a.ok) (bQ:Int) (_hlim:dp bQ) (aa:ahS) (_:aa.length<=maxLen):
  Pure prog 4 [.sl .ro (l.map gz.row),.int .i64 bQ,.sl .ro (aa.map yN)] (.bool true):=by
 have au:=xq2
 have aB:=Wj
 have ay:=wm1 l hl cN
 have aC:=xx3 cN
 have ai:=RV (wv l) (by unfold maxLen;omega)
 have hL:=R3 (wv l)
 obtain⟨L,az⟩:=eX ((rG (wv l)).1)
 rw[az]at ai hL
 obtain⟨tx,ao⟩: ∃t,wv l=t:=⟨_,rfl⟩
 rw[ao]at ay ai
 clear az aC ao
 have aj:=We qT L hL bQ
 have a1:=xT0 hL bQ
 obtain⟨T,a6⟩:=eX (o7 qT L bQ)
 rw[a6]at aj a1
 unfold qT at aj
 clear a6
 refine iV 0 func4 ntmps4 results4 λc hc hb=> ?_
 refine zN (zA ?_)
 simp[go_sem]
 refine zN (zA ?_)
 simp[go_sem]
 refine pC au ?_
 simp[go_sem]
 by_cases aF:40<aa.length
 .have ae:decide (40<(aa.length:Int))=true:=by simp;omega
  refine zA ?_
  simp[go_sem,ae]
  exact wR
 have ae:decide (40<(aa.length:Int))=false:=by simp;omega
 by_cases a7:bQ<0
 .have ah:decide (bQ<0)=true:=sU a7
  refine zA ?_
  simp[go_sem,ae,ah]
  exact wR
 have ah:decide (bQ<0)=false:=sU a7
 by_cases a8:1152921504606846976<bQ
 .have ak:decide (1152921504606846976<bQ)=true:=sU a8
  refine zA ?_
  simp[go_sem,ae,ah,ak]
  exact wR
 have ak:decide (1152921504606846976<bQ)=false:=sU a8
 refine zA ?_
 simp[go_sem,ae,ah,ak]
 refine pC aB ?_
 simp[go_sem,dG]
 refine yL [(3,0),(4,0),(6,0)] 1 rfl kR kR ?_
 simp[go_sem]
 refine pD ay ?_
 simp[go_sem]
 refine pD ai ?_
 simp[go_sem]
 refine pD aj ?_
 simp[go_sem]
 refine zI (S:=Nat×Tx×fh) [1,2,7,8,9,10] (λu=> [.int .i64 bQ,.sl .ro (aa.map yN),.ptr 0 0,.ptr 1 0,.ptr 2 0,.int .i64 u.1])
  (λu=> [.box eN,.box u.2.1.row,.box (uV u.2.2)]) (λu=>aa.length - u.1) (λu=>u.1<=aa.length/\SI L bQ u.2.1 u.2.2) hc hb (0,T,T.at_) ⟨A4 _,a1⟩ ?_ ?_
 .exact cd 3 (by simp[go_sem,eN,uV]) rfl (Ia ..) dC (zD sg rfl)
 rintro⟨i,t,last⟩ ⟨hi,hS⟩
 simp only at hi hS
 have aq:=hS.fin
 by_cases q:i<aa.length
 rotate_left
 .by_cases f1:bQ<=t.at_.wall
  .have af:decide (bQ<=t.at_.wall)=true:=sU f1
   refine zA ?_
   simp[go_sem,q,af]
   exact wR
  .have af:decide (bQ<=t.at_.wall)=false:=sU f1
   have av:(t.gW.1 !=0)=true:=by simpa using aq.resolve_left f1
   refine zA ?_
   simp[go_sem,q,af,av]
   exact wR
 have ei:=zQ q om
 have ab:=OV t (by have:=hS.ok.bV;omega) hS.ok.mH
 obtain⟨wl,ar⟩: ∃y,aa[i]=y:=⟨_,rfl⟩
 cases hA:kM t with
 |nil=>
  rw[hA]at ab
  by_cases f1:bQ<=t.at_.wall
  .have af:decide (bQ<=t.at_.wall)=true:=sU f1
   refine zA ?_
   simp[go_sem,q]
   refine pC ab ?_
   simp[go_sem,af]
   exact wR
  .have af:decide (bQ<=t.at_.wall)=false:=sU f1
   have av:(t.gW.1 !=0)=true:=by simpa using aq.resolve_left f1
   refine zA ?_
   simp[go_sem,q]
   refine pC ab ?_
   simp[go_sem,af,av]
   exact wR
 |cons a rest=>
  rw[hA]at ab
  have aA:((rest.length:Int)+1==0)=false:=by simp;omega
  have hw:=xQ2 wl
  obtain⟨w,al⟩:=eX (Ib wl)
  rw[al]at hw
  have aD:nZ a.cmd:=K4 hS.ok.mH a (by rw[hA];exact Av ..)
  have ad:=Wd t hS.ok a aD (xS a w) (wr4 a hw) bQ
  have an:=wl7 hS hA hw
  obtain⟨⟨uJ,tidy⟩,hU⟩: ∃uJ,qS t a (xS a w) bQ=uJ:=⟨_,rfl⟩
  rw[hU]at ad an
  simp only at ad an
  unfold Ib at al
  by_cases k3:a.cmd.kind=3
  .have aw:(a.cmd.kind==3)=true:=sU k3
   rw[show xS a w=⟨21,[],zT,0,zS,w,false⟩ by unfold xS;rw[ahg k3]]at ad
   refine zA ?_
   simp[go_sem,q]
   refine pC ab ?_
   simp[go_sem,aA,ar,aw,q,al,eN]
   refine yL [(7,0)] 4 rfl kR kR ?_
   simp[go_sem]
   refine pg ad cB (λ_=>⟨zC rfl,zC rfl,zC rfl,O7 ⟨21,[],zT,0,zS,w,false⟩ (g:= .full),zC rfl,tV⟩) rfl ?_
   rcases an with ⟨h1,h2⟩|⟨h1,h2,h3,h4,h5⟩|⟨h1,h2,h3,h4,h5,h6,h7⟩
   .have c1:decide (t.id.attempt<uJ.id.attempt)=false:=sU h1
    simp[go_sem,c1,ei]
    exact zH (i+1,uJ,last) ⟨by show aa.length - (i+1)<aa.length - i;omega,⟨q,h2⟩,cd 3 (by simp[go_sem,uV]) rfl (Ia ..) dC (zD sg rfl)⟩
   .have c1:decide (t.id.attempt<uJ.id.attempt)=true:=sU h1
    have c2:(uJ.phase==4)=true:=sU h2
    have c3:(uJ.gW.1==28)=true:=sU h3
    have c4:(uJ.id.attempt==10)=true:=sU h4
    have c5:(uJ.at_.wall==0)=true:=by rw[h5];rfl
    have c6:(uJ.at_.tie==0)=true:=by rw[h5];rfl
    simp[go_sem,c1,c2,c3,c4,c5,c6]
    exact wR
   .have c1:decide (t.id.attempt<uJ.id.attempt)=true:=sU h1
    have c2:(uJ.phase==4)=false:=sU h2
    have ax:IntKind.i64.wrap (w+24)=w+24:=bX om om
    have c3:decide (uJ.at_.wall<w+24)=false:=by simp;omega
    have c4:decide (uJ.at_.wall<bQ)=false:=by simp;omega
    have c5:decide (uJ.at_.wall<last.wall)=false:=by simp;omega
    have c6:(uJ.at_.wall==last.wall&&uJ.at_.tie==last.tie)=false:=by
     have: ¬(uJ.at_.wall=last.wall/\uJ.at_.tie=last.tie):=λh=>h6 (by
      obtain⟨x1,x2⟩: ∃x,uJ.at_=x:=⟨_,rfl⟩
      rw[x2]at h⊢
      cases x1;cases last
      simp only at h
      rw[h.1,h.2])
     simpa using this
    simp[go_sem,c1,c2,c3,c4,c5,c6,ax,ei,uV]
    exact zH (i+1,uJ,uJ.at_) ⟨by show aa.length - (i+1)<aa.length - i;omega,⟨q,h7⟩,cd 3 (by simp[go_sem]) rfl (Ia ..) dC (zD sg rfl)⟩
  .have aw:(a.cmd.kind==3)=false:=sU k3
   rw[show xS a w=r0 by unfold xS;rw[ahf k3]]at ad
   refine zA ?_
   simp[go_sem,q]
   refine pC ab ?_
   simp[go_sem,aA,ar,aw,q,al,eN]
   refine yL [(7,0)] 4 rfl kR kR ?_
   simp[go_sem]
   refine pg ad cB (λ_=>⟨zC rfl,zC rfl,zC rfl,O7 r0 (g:= .full),zC rfl,tV⟩) rfl ?_
   rcases an with ⟨h1,h2⟩|⟨h1,h2,h3,h4,h5⟩|⟨h1,h2,h3,h4,h5,h6,h7⟩
   .have c1:decide (t.id.attempt<uJ.id.attempt)=false:=sU h1
    simp[go_sem,c1,ei]
    exact zH (i+1,uJ,last) ⟨by show aa.length - (i+1)<aa.length - i;omega,⟨q,h2⟩,cd 3 (by simp[go_sem,uV]) rfl (Ia ..) dC (zD sg rfl)⟩
   .have c1:decide (t.id.attempt<uJ.id.attempt)=true:=sU h1
    have c2:(uJ.phase==4)=true:=sU h2
    have c3:(uJ.gW.1==28)=true:=sU h3
    have c4:(uJ.id.attempt==10)=true:=sU h4
    have c5:(uJ.at_.wall==0)=true:=by rw[h5];rfl
    have c6:(uJ.at_.tie==0)=true:=by rw[h5];rfl
    simp[go_sem,c1,c2,c3,c4,c5,c6]
    exact wR
   .have c1:decide (t.id.attempt<uJ.id.attempt)=true:=sU h1
    have c2:(uJ.phase==4)=false:=sU h2
    have ax:IntKind.i64.wrap (w+24)=w+24:=bX om om
    have c3:decide (uJ.at_.wall<w+24)=false:=by simp;omega
    have c4:decide (uJ.at_.wall<bQ)=false:=by simp;omega
    have c5:decide (uJ.at_.wall<last.wall)=false:=by simp;omega
    have c6:(uJ.at_.wall==last.wall&&uJ.at_.tie==last.tie)=false:=by
     have: ¬(uJ.at_.wall=last.wall/\uJ.at_.tie=last.tie):=λh=>h6 (by
      obtain⟨x1,x2⟩: ∃x,uJ.at_=x:=⟨_,rfl⟩
      rw[x2]at h⊢
      cases x1;cases last
      simp only at h
      rw[h.1,h.2])
     simpa using this
    simp[go_sem,c1,c2,c3,c4,c5,c6,ax,ei,uV]
    exact zH (i+1,uJ,uJ.at_) ⟨by show aa.length - (i+1)<aa.length - i;omega,⟨q,h7⟩,cd 3 (by simp[go_sem]) rfl (Ia ..) dC (zD sg rfl)⟩
end Go.Proofs.YtplackkccmeioaaGreat
