/-
  TxnAsks: the law's walk; used by the theorem at the end of the claim.
  Conditions: as each theorem states them.
-/
import Derived.Test.YtplackkccmeioaaGreatKCAS
set_option maxHeartbeats 8000000
namespace Go.Proofs.YtplackkccmeioaaGreat
open Go Go.Vx R Go.Proofs.Tryz
set_option maxRecDepth 100000
variable {t:Tx}{r:dm}{bT:Int}
def P1 (g:dE):Wr:=⟨(0,g.key),g.drop,g.data⟩
theorem xz3 (l:List dE) (hl:l.length<=100000):Pure prog 86 [.sl .ro (l.map dE.row),.sl .ro (l.map dE.row)] (.bool true):=by
 have h:=xP9 (l.map P1) (by rw[Ag];exact hl)
 rw[Bg]at h
 exact h
theorem xz1 (x:ct) (hx:j5 x):Pure prog 43 [.agg x.row,.agg x.row] (.bool true):=by
 have hw:=xz3 x.writes hx.writes
 have ab:=hx.cH
 have ad:=hx.cW.1
 have aa:([.box x.row,.box x.row]:St).all (bS 2)=true:=IW rfl rfl
 refine iV 0 func43 ntmps43 results43 λc hc hb=> ?_
 refine zA ?_
 simp[go_sem]
 refine pC hw ?_
 simp[go_sem]
 refine zH (S:=Nat) [2,3,5] (λi=> [.ptr 0 0,.ptr 1 0,.int .i64 (i:Int)]) (λ_=> [.box x.row,.box x.row]) (λi=>x.cH.length - i) (λi=>i<=x.cH.length) hc hb 0 (A3 _) ?_ ?_
 .exact aN 2 aa
 rintro i hi
 by_cases q:i<x.cH.length
 .have ei:=zQ q om
  obtain⟨y,hy⟩:=eX (x.cH[i])
  refine zA ?_
  simp[go_sem,q]
  refine yE [] 2 rfl kR kR ?_
  simp[go_sem,q,hy,ei]
  exact zI (i+1) ⟨om,om,aN 2 aa⟩
 clear hi
 refine zA ?_
 simp[go_sem,q]
 refine zH (S:=Nat) [2,3,6] (λi=> [.ptr 0 0,.ptr 1 0,.int .i64 (i:Int)]) (λ_=> [.box x.row,.box x.row]) (λi=>x.cW.length - i) (λi=>i<=x.cW.length) hc hb 0 (A3 _) ?_ ?_
 .exact aN 2 aa
 rintro i2 hi
 by_cases q2:i2<x.cW.length
 rotate_left
 .refine zA ?_
  simp[go_sem,q2]
  exact wR
 have ei:=zQ q2 om
 obtain⟨y,hy⟩:=eX (x.cW[i2])
 refine zA ?_
 simp[go_sem,q2]
 refine yE [] 2 rfl kR kR ?_
 simp[go_sem,q2,hy,ei]
 exact zI (i2+1) ⟨om,om,aN 2 aa⟩
theorem xP8 (t:Tx) (ht:jH t):Pure prog 15 [.agg t.row,.agg t.row] (.bool true):=by
 have h1:=xz2 t.cR ht.cR
 obtain⟨⟨ae,ai,ao⟩,aa⟩: ∃a,t.jo=a:=⟨_,rfl⟩
 have ho:=ht.outs
 rw[aa]at ho
 have h2:=xP7 ae ai ao ho.1 ho.2
 have af:=ht.bV
 have ab:([.box t.row,.box t.row]:St).all (bS 2)=true:=IW rfl rfl
 refine iV 0 func15 ntmps15 results15 λc hc hb=> ?_
 refine zA ?_
 simp[go_sem,aa]
 refine pC h1 ?_
 simp[go_sem]
 refine pC h2 ?_
 simp[go_sem]
 refine zH (S:=Nat) [2,3,5] (λi=> [.ptr 0 0,.ptr 1 0,.int .i64 (i:Int)]) (λ_=> [.box t.row,.box t.row]) (λi=>t.bV.length - i) (λi=>i<=t.bV.length) hc hb 0 (A3 _) ?_ ?_
 .exact cc 2 (by simp[go_sem,aa]) rfl ab dC (zD sg rfl)
 rintro i hi
 by_cases q:i<t.bV.length
 rotate_left
 .refine zA ?_
  simp[go_sem,q]
  exact wR
 have ei:=zQ q om
 obtain⟨y,hy⟩:=eX (t.bV[i])
 have ad:=xz1 y (ht.jW y (hy▸A8 q))
 refine zA ?_
 simp[go_sem,q]
 refine yE [(10,0)] 2 rfl kR kR ?_
 simp[go_sem,q,hy]
 refine pD ad ?_
 simp[go_sem,ei]
 exact zI (i+1) ⟨om,om,aN 2 ab⟩
def GH (r:dm):Bool:=decide (r.cW.length<=30)&&r.cW.all λp=>decide (p.key.length<=1000)&&decide (p.data.length<=1000)
theorem yB7 (r:dm):Pure prog 12 [.agg r.row] (.bool (GH r)):=by
 obtain⟨M,hM⟩:=eX (GH r)
 rw[hM]
 unfold GH at hM
 have ret: ∀(b:Bool) (I:St),b=M->cx (some (.bool b)) 0 (λr s=>r= .bool M/\s= []) I:=λb I h=>by subst h;exact wR
 refine iV 0 func12 ntmps12 results12 λc hc hb=> ?_
 by_cases ae:30<r.cW.length
 .have aa:decide (30<(r.cW.length:Int))=true:=by simp;omega
  refine zA ?_
  simp[go_sem,aa]
  exact ret _ _ (by rw[<-hM,aiw om];rfl)
 have aa:decide (30<(r.cW.length:Int))=false:=by simp;omega
 rw[aix om,B7]at hM
 refine zA ?_
 simp[go_sem,aa]
 refine zH (S:=Nat) [1,3] (λi=> [.ptr 0 0,.int .i64 (i:Int)]) (λ_=> [.box r.row]) (λi=>r.cW.length - i) (λi=>i<=r.cW.length/\((r.cW.drop i).all λp=>decide (p.key.length<=1000)&&decide (p.data.length<=1000))=M) hc hb 0 ⟨A3 _,hM⟩ ?_ ?_
 .exact aN 1 (by simp[bS,cN,cL,dm.row])
 rintro i ⟨hi,hinv⟩
 by_cases q:i<r.cW.length
 rotate_left
 .rw[A9 om,D4]at hinv
  refine zA ?_
  simp[go_sem,q]
  exact ret _ _ hinv
 have ei:=zQ q om
 obtain⟨y,hy⟩:=eX (r.cW[i])
 rw[A5 q,hy,Bl]at hinv
 by_cases k1:1000<y.key.length
 .have ab:decide (1000<(y.key.length:Int))=true:=by simp;omega
  rw[aiw om]at hinv
  refine zA ?_
  simp[go_sem,q,hy,ab]
  exact ret _ _ (sU hinv)
 have ab:decide (1000<(y.key.length:Int))=false:=by simp;omega
 rw[aix om]at hinv
 by_cases k2:1000<y.data.length
 .have ad:decide (1000<(y.data.length:Int))=true:=by simp;omega
  rw[aiw om]at hinv
  refine zA ?_
  simp[go_sem,q,hy,ab,ad]
  exact ret _ _ (sU hinv)
 have ad:decide (1000<(y.data.length:Int))=false:=by simp;omega
 rw[aix om,B7,B7]at hinv
 refine zA ?_
 simp[go_sem,q,hy,ab,ad,ei]
 exact zI (i+1) ⟨om,⟨om,hinv⟩,aN 1 (by simp[bS,cN,cL])⟩
structure lP (x:ct):Prop where
 cH:x.cH.length<=1000/\ ∀s∈x.cH,vy s
 writes:x.writes.length<=20000/\ ∀w∈x.writes,w.key.length<=2000/\w.data.length<=20000
 range:0<=x.range/\x.range<1000
 home:cI x.home
 eO:x.eO.ok
structure oi (t:Tx):Prop where
 ok:jH t
 id:t.id=⟨2,3,4,t.id.attempt⟩
 a9:t.phase≠4->t.id.attempt<=9
 at_:t.at_.ok
 bump:cI t.bump
 home:cI t.home
 jW: ∀x∈t.bV,lP x
structure RX (r:dm):Prop where
 ok:fa r
 home:cI r.home
 eO:r.eO.ok
theorem P2:zT.ok:=⟨dC,dC,dC,dC⟩
theorem oi.P3 (h:oi t):t.id.ok:=by
 have:=h.ok.lM
 rw[h.id]
 exact⟨sm,sm,sm,by show _<=t.id.attempt/\t.id.attempt<=_;omega⟩
theorem IX {a:cU} (k:Int) (hk:0<=k/\k<=10) (h:cI a.cmd.home) (hb:a.cmd.eO.ok) (ht:a.cmd.at_.ok) (e:a.cmd.kind=k/\a.cmd.fq=0/\a.cmd.node=0/\a.cmd.wall=0)
  (hs:a.cmd.cH.length<=1000/\ ∀s∈a.cmd.cH,vy s) (hw:a.cmd.writes.length<=20000/\ ∀w∈a.cmd.writes,w.key.length<=2000/\w.data.length<=20000):x7 a:=by
 obtain⟨e1,e2,e3,e4⟩:=e
 unfold cI at h
 refine⟨⟨om,om,om,h,hb,ht,om,tV,⟨by unfold maxLen;omega,λs aa=> ?_⟩,⟨by unfold maxLen;omega,λw ab=> ?_⟩⟩,⟨λs aa=> ?_,hw.2,hs.1,hw.1⟩⟩
 .have:=hs.2 s aa
  exact⟨by have:=this.1;unfold maxLen;omega,by have:=this.2;unfold maxLen;omega⟩
 .have:=hw.2 w ab
  exact⟨by have:=this.1;unfold maxLen;omega,tV,by have:=this.2;unfold maxLen;omega⟩
 .have:=hs.2 s aa
  exact⟨by have:=this.1;omega,by have:=this.2;omega⟩
theorem oi.asks (h:oi t): ∀a∈la t,x7 a:=λa ha=>by
 have hid:=h.P3
 unfold la at ha
 split at ha
 .obtain⟨l,hl,aa⟩:=List.mem_filterMap.1 ha
  have hx:=h.jW l hl
  unfold jC at aa
  split at aa
  .cases aa
   exact IX 2 dC oI hid h.at_ ⟨rfl,rfl,rfl,rfl⟩ hx.cH ⟨A3 _,λw hw=>by cases hw⟩
  split at aa
  .cases aa
   exact IX 3 dC h.home hid h.at_ ⟨rfl,rfl,rfl,rfl⟩ ⟨A3 _,λw hw=>by cases hw⟩ hx.writes
  split at aa
  .cases aa
   exact IX 4 dC oI hx.eO EM ⟨rfl,rfl,rfl,rfl⟩ ⟨A3 _,λw hw=>by cases hw⟩ ⟨A3 _,λw hw=>by cases hw⟩
  split at aa
  .cases aa
   exact IX 5 dC oI hx.eO EM ⟨rfl,rfl,rfl,rfl⟩ ⟨A3 _,λw hw=>by cases hw⟩ ⟨A3 _,λw hw=>by cases hw⟩
  .cases aa
 .split at ha
  .rw[B2]at ha
   subst ha
   exact IX 4 dC oI hid h.at_ ⟨rfl,rfl,rfl,rfl⟩ ⟨A3 _,λw hw=>by cases hw⟩ ⟨A3 _,λw hw=>by cases hw⟩
  .cases ha
theorem Xn (p:Int) {l:ct} (hl:lP l) (hr:RX r):lP (ig p l r).1:=by
 obtain⟨h1,h2,h3,h4,h5⟩:=hl
 unfold ig
 repeat' split
 all_goals first|exact⟨h1,h2,h3,h4,h5⟩|exact⟨h1,h2,h3,oI,P2⟩|exact⟨h1,h2,h3,hr.home,hr.eO⟩
theorem Xo {w n:Int} (hw:cI w) (hn:0<=n/\n<=100):cI (uo w n):=by
 unfold cI at hw⊢
 unfold uo mn
 split<;>omega
theorem xv5 (p:Int) (l:ct) (hr:RX r):cI (ig p l r).2.1:=by
 have h1:=hr.ok.wall
 have h2:=hr.ok.at_
 unfold ig
 repeat' split
 all_goals first|exact oI|exact Xo h1 dC|exact Xo h2 dC
theorem P4 {a b:Int} (ha:cI a) (hb:cI b):cI (mx a b):=by
 unfold mx
 split
 .exact hb
 .exact ha
theorem Xp (h:oi t) (h9:t.id.attempt<=9):oi (oG t):=by
 have hN:=PT h.ok.bV h.ok.jW
 obtain⟨_,h2,_⟩:=LP h.ok.cR hN
 obtain⟨m,hT⟩:=Wi (t.bV.map kZ)
 have hlen:(lI (t.bV.map kZ)).length<=(ku (t.bV.map kZ)).length:=hT.len
 have aa:=xy4 h.ok.cR hT.now (λx hx=>⟨hT.now.rows x hx,(hT.lines x hx).1⟩) (by show(lI (t.bV.map kZ)).length<=7500;omega)
 change∀q∈pB t.cR (lI (t.bV.map kZ)),_ at aa
 have cQ:=PU h.ok
 obtain⟨e1,e2⟩:=Xk t
 refine⟨cQ,by rw[e1];exact h.id,λ_=>by rw[e1];exact h9,by rw[e2];exact h.at_, ?_, ?_, ?_⟩
 .unfold oG
  split<;>exact h.bump
 .unfold oG
  split
  .exact h.home
  .rename_i p l hp
   rw[hp]at h2
   have:=h2.dy p (B1 ..)
   show cI p.1
   unfold cI
   omega
 .unfold oG
  split
  .exact λx hx=>by cases hx
  .rename_i p l hp
   rw[hp]at h2 aa
   intro x hx
   obtain⟨q,hq,rfl⟩:=Ac.1 (show x∈(p::l).map vw from hx)
   obtain⟨g1,g2⟩:=aa q hq
   have:=h2.dy q hq
   refine⟨⟨A3 _,λs hs=>by cases hs⟩,⟨by show(q.2.map wG).length<=20000;rw[Ag];exact g1,λw hw=> ?_⟩,by show 0<=q.1/\q.1<1000;omega,oI,P2⟩
   obtain⟨z,hz,rfl⟩:=Ac.1 (show w∈q.2.map wG from hw)
   exact g2 z hz
theorem we0: ∀k:Nat,k<10->cI (mP ⟨2,3,4,k⟩):=by decide+kernel
theorem P5 {x:fy} (h:x=⟨2,3,4,x.attempt⟩) (h0:0<=x.attempt) (h9:x.attempt<=9):cI (mP x):=by
 obtain⟨k,hk⟩: ∃k:Nat,x.attempt=k:=⟨x.attempt.toNat,om⟩
 rw[h,hk]
 exact we0 k om
theorem Xq (h:oi t) (h9:t.id.attempt<=9) (hl:cI bT):oi (rF t bT):=by
 have aa:oi (xy t bT):=⟨LQ h.ok bT,h.id,λ_=>h9,⟨P4 hl h.bump,P5 h.id h.ok.lM.1 h9⟩,h.bump,oI,λx hx=>by
  obtain⟨q,hq,rfl⟩:=Ac.1 (show x∈(mZ t.cR).map um from hx)
  have:=PA t.cR q hq
  exact⟨⟨WH h.ok.cR q hq,yO8 t.cR q hq⟩,⟨A3 _,λw hw=>by cases hw⟩,by show 0<=q.1/\q.1<1000;omega,oI,P2⟩⟩
 unfold rF
 split
 .exact Xp aa h9
 .exact aa
theorem Xr (h:oi t) (h9:t.id.attempt<=9) {bump:Int} (hb:cI bump) (hl:cI bT):oi (vx t bump bT).1:=by
 have cQ:=PV h.ok h9 bump bT
 have h0:=h.ok.lM
 have hid:fy.mk t.id.node t.id.eU t.id.seq (t.id.attempt+1)=⟨2,3,4,t.id.attempt+1⟩:=by rw[h.id]
 unfold vx at cQ⊢
 simp only at cQ⊢
 by_cases q:10<=t.id.attempt+1
 .rw[aiv q]at cQ⊢
  exact⟨cQ,hid,λh4=>absurd rfl h4,EM,P4 h.bump hb,h.home,λx hx=>by cases hx⟩
 .rw[aiu q]at cQ⊢
  exact Xq (t:={t with bump:=mx t.bump bump,id:={t.id with attempt:=t.id.attempt+1}}) ⟨⟨h.ok.cR,by show 0<=t.id.attempt+1/\t.id.attempt+1<=10;omega,h.ok.bV,h.ok.jW,h.ok.outs⟩,hid,λ_=>by show t.id.attempt+1<=9;omega,h.at_,P4 h.bump hb,h.home,h.jW⟩ (by show t.id.attempt+1<=9;omega) hl
def LrX:p8->Prop
 | .done l=> ∀x∈l,lP x
 | .wait=>True
 | .again l b=>(∀x∈l,lP x)/\cI b
theorem P6 {t:Tx} {a:cU} {r:dm} (hr:RX r): ∀{ls acc:List ct},(∀x∈acc,lP x)->(∀x∈ls,lP x)->LrX (mQ t a r acc ls)
 | [],acc,ha,_=>by rw[mQ];exact ha
 |l::ls,acc,ha,hg=>by
  have ab:=hg l (B1 ..)
  have ad: ∀x∈ls,lP x:=λx hx=>hg x (Ba _ hx)
  have aa: ∀y:ct,lP y-> ∀x∈acc++ [y],lP x:=λy hy x hx=>by
   rcases Af.1 hx with hx|hx
   .exact ha x hx
   .rw[B2.1 hx];exact hy
  rw[mQ]
  split
  .split
   .refine⟨λx hx=> ?_,xv5 _ _ hr⟩
    rcases Af.1 hx with hx|hx
    .exact ha x hx
    .rcases Ae.1 hx with rfl|hx
     .exact Xn _ ab hr
     .exact ad x hx
   split
   .trivial
   .exact P6 hr (aa _ (Xn _ ab hr)) ad
  .exact P6 hr (aa _ ab) ad
theorem wo8 (h:oi t) (h4:t.phase≠4) (a:cU) (hr:RX r) (hl:cI bT):oi (sr t a r bT).1:=by
 have h9:=h.a9 h4
 have cQ:=Xh h.ok h9 a hr.ok bT
 unfold sr BJ at cQ⊢
 split
 .exact h
 split
 .split
  .exact h
  split
  .exact⟨⟨h.ok.cR,h.ok.lM,h.ok.bV,h.ok.jW,h.ok.outs⟩,h.id,λ_=>h9,h.at_,h.bump,h.home,h.jW⟩
  .exact Xr h h9 oI hl
 .have h1:=LV (t:=t) (a:=lL a) hr.ok (ls:=t.bV) (acc:= []) (by simpa using h.ok.bV) (λx hx=>by cases hx) h.ok.jW
  have h2:=P6 (t:=t) (a:=lL a) hr (ls:=t.bV) (acc:= []) (λx hx=>by cases hx) h.jW
  clear cQ
  revert h1 h2
  generalize mQ t (lL a) r [] t.bV=L
  intro h1 h2
  cases L with
  |done l=>
   have ht:oi {t with bV:=l}:=⟨⟨h.ok.cR,h.ok.lM,h1.1,h1.2,h.ok.outs⟩,h.id,λ_=>h9,h.at_,h.bump,h.home,h2⟩
   unfold IQ uq
   simp only
   split
   .exact ht
   split
   .exact Xp ht h9
   .exact⟨⟨h.ok.cR,h.ok.lM,h1.1,h1.2,h.ok.outs⟩,h.id,λ_=>h9,h.at_,h.bump,h.home,h2⟩
  |wait=>exact⟨⟨h.ok.cR,h.ok.lM,A3 _,λx hx=>(by cases hx),A3 _,λx hx=>by cases hx⟩,h.id,λh4=>absurd rfl h4,EM,h.bump,h.home,λx hx=>by cases hx⟩
  |again l b=>
   exact Xr (t:={t with bV:=l}) ⟨⟨h.ok.cR,h.ok.lM,h1.1,h1.2,h.ok.outs⟩,h.id,λ_=>h9,h.at_,h.bump,h.home,h2.1⟩ h9 h2.2 hl
theorem wk9 {l:dU} (hl:kN l) (ff:cI bT) (k:Int):oi (rG ⟨2,3,4,k⟩ l bT):=by
 have h0:oi ⟨⟨2,3,4,0⟩,l,0,zS,0,0,[],(0,0,[])⟩:=⟨Xi hl ⟨2,3,4,k⟩,rfl,λ_=>by show(0:Int)<=9;decide,EM,oI,oI,λx hx=>by cases hx⟩
 have cQ:=Xj hl ⟨2,3,4,k⟩ bT
 unfold rG at cQ⊢
 split
 .rename_i h
  rw[aiv h]at cQ
  exact⟨cQ,rfl,λ_=>by show(0:Int)<=9;decide,EM,oI,oI,λx hx=>by cases hx⟩
 rename_i h
 rw[aiu h]at cQ
 split
 .rename_i h2
  rw[aiv h2]at cQ
  exact⟨cQ,rfl,λ_=>by show(0:Int)<=9;decide,EM,oI,oI,λx hx=>by cases hx⟩
 .exact Xq h0 (by show(0:Int)<=9;decide) ff
theorem Xs (t:Tx) (a:cU) (h:r.err=25\/r.err=27) (bT:Int):sr t a r bT=(t,[]):=by
 unfold sr BJ
 rw[aiv (.inr h)]
theorem xK3 (hr:r.ok) (h:GH r):RX r:=by
 unfold GH at h
 simp only[Ab,aiA,Am]at h
 exact⟨⟨⟨by have:=h.1;omega,λp hp=>by have:=(h.2 p hp).2;unfold cG;omega⟩,hr.wall,hr.at_.wall⟩,hr.home,hr.eO⟩
theorem xW2 {t:Tx} (h:la t≠ []):t.phase≠4:=λh4=>h (by
 unfold la
 rw[aiu om,aiu om])
theorem Xt (t:Tx):([.box eM,.box t.row]:St).all (bS 2)=true:=by simp[bS,cN,cL,eM,Tx.row]
theorem P7 (t:Tx) (a:cU):([.box eM,.box t.row,.box a.row]:St).all (bS 3)=true:=by simp[bS,cN,cL,eM,Tx.row,cU.row]
theorem xD2 (l:List gF) (hl:l.length<=maxLen) (cQ: ∀a∈l,a.ok) (bT:Int) (ff:cI bT) (turns:List gM) (_htl:turns.length<=maxLen) (aJ: ∀x∈turns,x.ok):
  Pure prog 3 [.sl .ro (l.map gF.row),.int .i64 bT,.sl .ro (turns.map gM.row)] (.bool true):=by
 have aq:=xs8
 have aK:=Xl
 have ay:=wp8 l hl cQ
 have az:=xA3 cQ
 have ah:=SV (xw l) (by unfold maxLen;omega)
 have hL:=S3 (xw l)
 obtain⟨L,a1⟩:=eX ((sa (xw l)).1)
 rw[a1]at ah hL
 obtain⟨tx,al⟩: ∃t,xw l=t:=⟨_,rfl⟩
 rw[al]at ay ah
 clear a1 az al
 have an:=W9 ⟨2,3,4,0⟩ L hL bT
 have a6:=wk9 hL ff 0
 obtain⟨T,a7⟩:=eX (rG ⟨2,3,4,0⟩ L bT)
 rw[a7]at an a6
 clear a7
 refine iV 0 func3 ntmps3 results3 λc hc hb=> ?_
 refine zN (zA ?_)
 simp[go_sem]
 refine zN (zA ?_)
 simp[go_sem]
 refine pC aq ?_
 simp[go_sem]
 by_cases aS:20<turns.length
 .have ai:decide (20<(turns.length:Int))=true:=by simp;omega
  refine zA ?_
  simp[go_sem,ai]
  exact wR
 have ai:decide (20<(turns.length:Int))=false:=by simp;omega
 refine zA ?_
 simp[go_sem,ai]
 refine pC aK ?_
 simp[go_sem,dJ]
 refine yE [(3,0),(4,0),(6,0)] 1 rfl kR kR ?_
 simp[go_sem]
 refine pD ay ?_
 simp[go_sem]
 refine pD ah ?_
 simp[go_sem]
 refine pD an ?_
 simp[go_sem]
 refine zH (S:=Nat×Tx) [2,7,8,9] (λu=> [.sl .ro (turns.map gM.row),.ptr 0 0,.ptr 1 0,.int .i64 u.1])
  (λu=> [.box eM,.box u.2.row]) (λu=>turns.length - u.1) (λu=>u.1<=turns.length/\oi u.2) hc hb (0,T) ⟨A3 _,a6⟩ ?_ ?_
 .exact cc 2 (by simp[go_sem,eM]) rfl (Xt ..) dC (zD sg rfl)
 rintro⟨i,t⟩ ⟨hi,hX⟩
 simp only at hi hX
 by_cases q:i<turns.length
 rotate_left
 .refine zA ?_
  simp[go_sem,q]
  exact wR
 have ei:=zQ q om
 have aT:=hX.ok.bV
 have aa:=PL t om hX.ok.jW
 have aL:= @WZ t
 have ar:=hX.asks
 have a8:=LO hX.ok.jW
 have aA:= @xW2 t
 obtain⟨y,hy⟩:=eX (turns[i])
 have au:=aJ y (hy▸A8 q)
 have ab:=yB7 y.r
 obtain⟨lb,aB⟩: ∃b,GH y.r=b:=⟨_,rfl⟩
 rw[aB]at ab
 obtain⟨AL,aP⟩: ∃A,la t=A:=⟨_,rfl⟩
 rw[aP]at aa aL ar a8 aA
 have aC:=xd6 AL om ar
 cases lb with
 |false=>
  refine zA ?_
  simp[go_sem,q]
  refine pC aa ?_
  simp[go_sem,hy,q]
  refine pC ab ?_
  simp[go_sem]
  exact wR
 |true=>
 by_cases av:AL= []
 .subst av
  refine zA ?_
  simp[go_sem,q]
  refine pC aa ?_
  simp[go_sem,hy,q]
  refine pC ab ?_
  simp[go_sem]
  exact wR
 have aU:0<AL.length:=List.length_pos_iff.2 av
 have aD:((AL.length:Int)==0)=false:=by simp;omega
 have ad:=xK3 au.r aB
 have aQ:=aA av
 have aE:=IM y.iS AL.length au.iS om om
 obtain⟨j,hj,aF⟩: ∃j:Nat,y.iS%(AL.length:Int)=j/\j<AL.length:=by
  have h1:=E0 y.iS (b:=(AL.length:Int)) om
  have h2:=Dj y.iS (b:=(AL.length:Int)) om
  exact⟨(y.iS%(AL.length:Int)).toNat,om,om⟩
 rw[hj]at aE
 obtain⟨a,ha⟩:=eX (AL[j])
 have aG:a∈AL:=ha▸A8 aF
 have aw:=a8 a aG
 have has:=ar a aG
 have ao:=R.l9 a.cmd has.ok has.s
 have aj:=xP8 t hX.ok
 have aH:fa {y.r with err:=25}:=⟨ad.ok.cW,ad.ok.wall,ad.ok.at_⟩
 have aI:fa {y.r with err:=27}:=⟨ad.ok.cW,ad.ok.wall,ad.ok.at_⟩
 have ae:=LR t hX.ok a aw _ aH y.bT
 have af:=LR t hX.ok a aw _ aI y.bT
 rw[Xs t a (.inl rfl)]at ae
 rw[Xs t a (.inr rfl)]at af
 have ak:=LR t hX.ok a aw y.r ad.ok y.bT
 have ax:=wo8 hX aQ a ad (bT:=y.bT) au.bT
 obtain⟨⟨uJ,tidy⟩,hU⟩: ∃uJ,sr t a y.r y.bT=uJ:=⟨_,rfl⟩
 rw[hU]at ak ax
 simp only at ak ax
 refine zA ?_
 simp[go_sem,q]
 refine pC aa ?_
 simp[go_sem,hy,q]
 refine pC ab ?_
 simp[go_sem,aD,hy,q]
 refine pC aE ?_
 simp[go_sem,aF,ha]
 refine zH (S:=Nat) [2,7,8,9,10,11,12] (λk=> [.sl .ro (turns.map gM.row),.ptr 0 0,.ptr 1 0,.int .i64 i,.sl .ro (AL.map cU.row),.ptr 2 0,.int .i64 (k:Int)])
  (λ_=> [.box eM,.box t.row,.box a.row]) (λk=>2 - k) (λk=>k<=2) hc hb 0 dC ?_ ?_
 .exact cc 3 (by simp[go_sem,eM]) rfl (P7 ..) dC (zD sg rfl)
 rintro k hk
 have aR:k=0\/k=1\/k=2:=om
 rcases aR with rfl|rfl|rfl
 .refine zA ?_
  simp[go_sem,q,hy,eM]
  refine yE [(9,0)] 4 rfl kR kR ?_
  simp[go_sem,q,hy]
  refine pD ae ?_
  simp[go_sem]
  refine pC aj ?_
  simp[go_sem]
  refine pC aa ?_
  simp[go_sem]
  refine pC aC ?_
  simp[go_sem]
  refine pC ao ?_
  simp[go_sem]
  exact zI 1 ⟨dC,dC,aN 3 (P7 ..)⟩
 .refine zA ?_
  simp[go_sem,q,hy,eM]
  refine yE [(9,0)] 4 rfl kR kR ?_
  simp[go_sem,q,hy]
  refine pD af ?_
  simp[go_sem]
  refine pC aj ?_
  simp[go_sem]
  refine pC aa ?_
  simp[go_sem]
  refine pC aC ?_
  simp[go_sem]
  refine pC ao ?_
  simp[go_sem]
  exact zI 2 ⟨dC,dC,aN 3 (P7 ..)⟩
 .refine zA ?_
  simp[go_sem,eM]
  refine yE [(13,0)] 3 rfl kR kR ?_
  simp[go_sem,q,hy]
  refine pD ak ?_
  simp[go_sem,ei]
  exact zI (i+1,uJ) ⟨by show turns.length - (i+1)<turns.length - i;omega,⟨q,ax⟩,aN 2 (Xt ..)⟩
end Go.Proofs.YtplackkccmeioaaGreat
