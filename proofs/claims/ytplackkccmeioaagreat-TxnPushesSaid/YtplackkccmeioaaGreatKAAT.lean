/-
  TxnPushes: who meets a lock asks its home, settles it, and asks again what it asked; used by the theorem at the end of the claim.
  Conditions: as each theorem states them.
-/
import Derived.Test.YtplackkccmeioaaGreatKAAS
set_option maxHeartbeats 8000000
namespace Go.Proofs.YtplackkccmeioaaGreat
open Go Go.Vx R Go.Proofs.Tryz
set_option maxRecDepth 100000
theorem GB {ρ:Nat->Nat} (a:cT) {g k:Tag}:cP ρ (.agg a.row) (.agg [.int .i64 a.range,.int .i64 a.cmd.kind,.int .i64 a.cmd.fi,.int .i64 a.cmd.node,.int .i64 a.cmd.home,.int .i64 a.cmd.dN.node,.int .i64 a.cmd.dN.eZ,.int .i64 a.cmd.dN.seq,.int .i64 a.cmd.dN.attempt,.int .i64 a.cmd.at_.wall,.int .i64 a.cmd.at_.tie,.int .i64 a.cmd.wall,.bool a.cmd.yes,.sl g (a.cmd.cI.map ca.row),.sl k (a.cmd.writes.map dK.row)]):=Ww a
theorem GC:cZ 0:=dC
theorem Xf:zS.ok:=⟨dC,dC⟩
theorem xM4 (l:List gH) (hl:l.length<=maxLen) (db: ∀a∈l,a.ok) (bS:Int) (fp:cZ bS) (dN:fq) (az:dN.ok) (home:Int) (_:cZ home) (yes:Bool):
  Pure prog 5 [.sl .ro (l.map gH.row),.int .i64 bS,.agg dN.row,.int .i64 home,.bool yes] (.bool true):=by
 have ao:=xs0
 have a1:=Xc
 have ax:=wn5 l hl db
 have aK:=xz4 db
 have ah:=SF (xy l) (by unfold maxLen;omega)
 have hL:=SM (xy l)
 obtain⟨L,a6⟩:=eX ((sf (xy l)).1)
 rw[a6]at ah hL
 obtain⟨tx,av⟩: ∃t,xy l=t:=⟨_,rfl⟩
 rw[av]at ax ah
 clear a6 aK av
 have ai:=WY pL L hL bS
 obtain⟨hT,h9⟩:=Xe L hL bS
 have a7:=xr9 hL pL bS
 have hid:(oh pL L bS).id=pL:=Xb pL L bS
 obtain⟨T,a8⟩:=eX (oh pL L bS)
 rw[a8]at ai hT h9 a7 hid
 have aa:=IM T (by have:=hT.bV;omega) hT.ko
 unfold pL at ai
 rcases a7 with ⟨hp,aL⟩|⟨hB,aA⟩
 .have ha:ji T= []:=by
   unfold ji
   rw[ai1 om,ai1 om]
  have aP:(T.phase==4)=true:=sU hp
  rw[ha]at aa
  refine iV 0 func5 ntmps5 results5 λc hc hb=> ?_
  refine zA ?_
  simp[go_sem]
  refine pC ao ?_
  simp[go_sem]
  refine pC a1 ?_
  simp[go_sem,dG]
  refine yI [(3,0),(4,0),(6,0)] 2 rfl kR kR ?_
  simp[go_sem]
  refine pD ax ?_
  simp[go_sem]
  refine pD ah ?_
  simp[go_sem]
  refine pD ai ?_
  simp[go_sem]
  refine pC aa ?_
  simp[go_sem,aP]
  exact wR
 obtain⟨y,ls,ae⟩: ∃y ls,T.bV=y::ls:=by
  cases e:T.bV with
  |nil=>exact absurd e hB.ph.2
  |cons y ls=>exact⟨y,ls,rfl⟩
 have aB: ∀x∈ls,x.range≠y.range:=λx hx=>by
  have h:=hB.up
  rw[ae,Ah,C9]at h
  exact λe=>by have:=h.1 x.range (Ab.2 ⟨x,hx,rfl⟩);omega
 have aw:=hB.asks (by rw[hid];exact⟨dC,dC,dC,dC⟩) (by
  rw[aA]
  unfold cZ at fp
  have aC:cZ (lR {pL with attempt:=0}):=PU
  unfold cZ at aC
  exact⟨by show _<=mx bS 0/\mx bS 0<=_;unfold mx;split<;>omega,aC⟩)
 obtain⟨a,uJ,W,rest,e1,e2,e3,eU,e4,e5,eW,e6,e7⟩:=xM3 hB.ph.1 ae hB.ko aB dN home yes bS
 have ab:=hT.ko y (ae▸Av ..)
 have aq: ∀x∈ls,jY x:=λx hx=>hT.ko x (ae▸B5 _ hx)
 have ay:ls.length+1<=4:=by have:=hT.bV;rw[ae]at this;exact this
 have aj:jm uJ:=by
  rw[eU]
  exact⟨hT.cR,hT.pG,ay,λx hx=>(by
   rcases Ae.1 hx with rfl|hx
   .exact⟨ab.range,ab.cI,ab.writes,ab.dO⟩
   .exact aq x hx),hT.outs⟩
 have ak:jm W:=by
  rw[eW]
  exact⟨hT.cR,hT.pG,ay,λx hx=>(by
   rcases Ae.1 hx with rfl|hx
   .exact⟨ab.range,ab.cI,ab.writes,ab.dO⟩
   .exact aq x hx),hT.outs⟩
 have aD:fb ⟨20,[],dN,home,zS,0,false⟩:=⟨⟨A3 _,λp hp=>by cases hp⟩,GC,GC⟩
 have aE:fb ⟨0,[],zT,0,zS,0,yes⟩:=⟨⟨A3 _,λp hp=>by cases hp⟩,GC,GC⟩
 have aF:fb ⟨0,[],zT,0,zS,0,false⟩:=⟨⟨A3 _,λp hp=>by cases hp⟩,GC,GC⟩
 have aG:oG a.cmd:=LL hT.ko a (by rw[e1];exact Av ..)
 have ar:=LO T hT a aG _ aD bS
 have au:=LO uJ aj ⟨home,⟨4,0,0,0,dN,zS,0,false,[],[]⟩⟩ ⟨A3 _,A3 _⟩ _ aE bS
 have af:=LO W ak (lS y.range dN yes) ⟨A3 _,A3 _⟩ _ aF bS
 rw[e2]at ar
 rw[e4]at au
 rw[e7]at af
 have al:=IM uJ (by have:=aj.bV;omega) aj.ko
 have ad:=IM W (by have:=ak.bV;omega) ak.ko
 have aH:=xe3 (ji T) (by have:= @WN T;have:=hT.bV;omega) aw
 have aS:=hB.dw y (ae▸Av ..)
 have aQ:=PO ⟨home,⟨4,0,0,0,dN,zS,0,false,[],[]⟩⟩ ⟨⟨sm,sm,sm,sm,az,Xf,sm,tV,⟨A3 _,λs hs=>(by cases hs)⟩,⟨A3 _,λs hs=>(by cases hs)⟩⟩,⟨λs hs=>(by cases hs),λs hs=>(by cases hs),A3 _,A3 _⟩⟩
 have aI:=PO (lS y.range dN yes) ⟨⟨by simp[lS],by simp[lS],by simp[lS],by simp[lS],az,Xf,by simp[lS],tV,⟨A3 _,λs hs=>(by cases hs)⟩,⟨A3 _,λs hs=>(by cases hs)⟩⟩,⟨λs hs=>(by cases hs),λs hs=>(by cases hs),A3 _,A3 _⟩⟩
 have an:=aa
 rw[e1]at aa aH an
 rw[e3]at al
 rw[e5]at ad
 rw[<-e6]at aI ad af
 clear e1 e2 e3 e4 e5 e7 eU eW aj ak aw hT h9 ab aq ay aB ae hB aA aG aD aE aF hL a8
 refine iV 0 func5 ntmps5 results5 λc hc hb=> ?_
 refine zA ?_
 simp[go_sem]
 refine pC ao ?_
 simp[go_sem]
 refine pC a1 ?_
 simp[go_sem,dG]
 refine yI [(3,0),(4,0),(6,0)] 2 rfl kR kR ?_
 simp[go_sem]
 refine pD ax ?_
 simp[go_sem]
 refine pD ah ?_
 simp[go_sem]
 refine pD ai ?_
 simp[go_sem]
 refine pC aa ?_
 have aR:((rest.length:Int)+1==0)=false:=by simp;omega
 simp[go_sem,aR]
 refine yI [(9,0)] 3 rfl kR kR ?_
 simp[go_sem]
 refine wP ar cB (λ_=>⟨zC rfl,zC rfl,zC rfl,LQ ⟨20,[],dN,home,zS,0,false⟩ (g:= .full),zC rfl,tV⟩) rfl ?_
 simp[go_sem]
 refine pC al ?_
 simp[go_sem]
 refine yI [(10,0)] 5 rfl kR kR ?_
 simp[go_sem]
 refine wP aQ cB (λ_=>⟨GB _ (g:= .ro) (k:= .ro),GB ⟨home,⟨4,0,0,0,dN,zS,0,false,[],[]⟩⟩ (g:= .full) (k:= .full),tV⟩) rfl ?_
 simp[go_sem]
 refine yI [(8,0)] 5 rfl kR kR ?_
 simp[go_sem]
 refine wP au cB (λ_=>⟨zC rfl,zC rfl,GB ⟨home,⟨4,0,0,0,dN,zS,0,false,[],[]⟩⟩ (g:= .ro) (k:= .ro),LQ ⟨0,[],zT,0,zS,0,yes⟩ (g:= .full),zC rfl,tV⟩) rfl ?_
 simp[go_sem]
 refine pC ad ?_
 simp[go_sem]
 refine yI [(17,0)] 6 rfl kR kR ?_
 simp[go_sem]
 refine wP aI cB (λ_=>⟨GB (lS a.range dN yes) (g:= .ro) (k:= .ro),GB (lS a.range dN yes) (g:= .full) (k:= .full),tV⟩) rfl ?_
 simp[go_sem]
 refine yI [(7,0)] 6 rfl kR kR ?_
 simp[go_sem]
 refine wP af cB (λ_=>⟨zC rfl,zC rfl,GB (lS a.range dN yes) (g:= .ro) (k:= .ro),LQ ⟨0,[],zT,0,zS,0,false⟩ (g:= .full),zC rfl,tV⟩) rfl ?_
 simp[go_sem]
 refine pC an ?_
 simp[go_sem]
 refine pC aH ?_
 simp[go_sem]
 exact wR
end Go.Proofs.YtplackkccmeioaaGreat
