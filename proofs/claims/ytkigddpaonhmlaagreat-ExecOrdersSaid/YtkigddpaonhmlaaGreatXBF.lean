/-
  What is there now, as a map and as lines: how one follows the other when rows go or turn; used by the walks of exec.
  Conditions: as each theorem states them.
-/
import Derived.Test.YtkigddpaonhmlaaGreatXBE
import Derived.Test.YtkigddpaonhmlaaGreatXAY
import Derived.Test.YtkigddpaonhmlaaGreatXAX
set_option maxHeartbeats 8000000
namespace Go.Proofs.YtkigddpaonhmlaaGreat
open Go Go.Vx R Go.Proofs.Tryz
set_option maxRecDepth 100000
theorem zz9 {cols:List GCol} {row:List GValue} (hc:cols.length<=20) (hv: ∀v∈row,v.ok) (h:mayT cols row=0):LightR row:=by
 have hl:=zj4 h
 refine⟨by omega,fun v hv'=> ?_,hv⟩
 rcases zM0 (yG2 h v hv')with ⟨_,_,h3⟩|⟨_,_,h3⟩|⟨_,h3⟩|⟨_,_,h3⟩
 .rw[h3];decide
 .rw[h3];decide
 .rw[h3];decide
 .omega
theorem xf1 (tn:Nat) (T:GTable) (hT:tabsS[tn]? =some T) (row:List GValue):keyR 3 tn T row (wJ tn)=keyS tn T row:=by
 unfold keyR keyS
 by_cases h:mayT T.cols row≠0
 .rw[if_pos h,if_pos h]
 .rw[if_neg h,if_neg h]
  have hl:=zj4 (Classical.not_not.1 h)
  have e0:row.headD v0=row.getD 0 zeroV:=by cases row<;>rfl
  rw[e0]
  have ev:v0=zeroV:=rfl
  rw[ev]
  obtain⟨htn,hTx⟩:=A1.1 hT
  have h3:tn<3:=htn
  unfold yq6 wJ
  generalize row.getD 0 zeroV=x
  match tn,h3 with
  |0,_=>
   have hp:T.place=0:=by cases hT;decide
   simp only[hp,if_true,true_and]
   by_cases q0:x.n=0
   .simp[q0,show min (max (0:Int) (-1)) 4=0 by decide]
   .by_cases q1:x.n=1
    .simp[q1,show min (max (1:Int) (-1)) 4=1 by decide]
    .have n0: ¬min (max x.n (-1)) 4=0:=by omega
     have n1: ¬min (max x.n (-1)) 4=1:=by omega
     simp[q0,q1,n0,n1]
  |1,_=>
   have hp: ¬T.place=0:=by cases hT;decide
   simp
  |2,_=>
   have hp: ¬T.place=0:=by cases hT;decide
   simp
theorem yr2 (tn:Nat) (T:GTable) (hT:tabsS[tn]? =some T) (row:List GValue) (hr:row.length<=maxLen) (hv: ∀v∈row,v.ok):Pure prog 29 [schR tabsS,.int .i64 tn,.sl .ro (row.map GValue.row)] (keyV (keyS tn T row)):=by
 obtain⟨htn,hTx⟩:=A1.1 hT
 have hk:=(by decide: ∀T∈tabsS,0<=T.key/\T.key<T.cols.length/\T.cols.length<=20) T (hTx▸A8 htn)
 rw[<-xf1 tn T hT row]
 exact xk8 xX tabsS tn htn T hTx row hr (zz9 hk.2.2 hv) (by decide) ⟨hk.1,hk.2.1⟩ (wJ tn) fun r h1 h2 h3=>by
  have h3':tn<3:=htn
  exact yA5 tn r (by omega) (by omega)
def runB:Ob:= .box [.sl .ro xX,.sl .ro (tabsS.map GTable.row),.mp 0,.mp 1,.mp 2]
def runS (a b:Mp (List UInt8)) (c:Mp Int):St:= [a.ob .str,b.ob .str,c.ob (V.int .i64),runB]
theorem xL9 {α:Type} {g:α->V} (hg: ∀v,ltA 0 (g v)=true) (n:Nat): ∀W:List (Pl×α),(kvE g W).all (ltA n)=true
 | []=>rfl
 |e::W=>by
  rw[kvE,Am,Am,xL9 hg n W,yF5 (A3 _) (hg e.2)]
  rfl
theorem xM1 {α:Type} {g:α->V} (hg: ∀v,ltA 0 (g v)=true) (n:Nat) (m:Mp α):ltOb n (m.ob g)=true:=xL9 hg n m.W
theorem xM (n:Nat) (h:3<=n) (a b:Mp (List UInt8)) (c:Mp Int):(runS a b c).all (ltOb n)=true:=by
 have h0:decide (0<n)=true:=decide_eq_true (by omega)
 have h1:decide (1<n)=true:=decide_eq_true (by omega)
 have h2:decide (2<n)=true:=decide_eq_true (by omega)
 simp only[runS,Am,Cp,Cx,xM1 (g:=V.str) (fun _=>rfl),xM1 (g:=V.int .i64) (fun _=>rfl),B8]
 simp[runB,ltOb,ltC,ltK,h0,h1,h2]
def cntP (c:Mp Int) (p:Pl):Int:=(c.get p).getD 0
def zr6 (rng:Int) (key data:List UInt8):Bool:=
 decide ((ofS rng).2.2=0)&&(decide ((rowF tabsS (ofS rng).1 data).2=0)&&decide (keyS (ofS rng).1.toNat (tabsS.getD (ofS rng).1.toNat noT) (rowF tabsS (ofS rng).1 data).1=(rng,key,0)))
def tkS (m:Mp (List UInt8)×Mp (List UInt8)×Mp Int):St:=runS m.1 m.2.1 m.2.2
abbrev M3:=Mp (List UInt8)×Mp (List UInt8)×Mp Int
def zW7 (p:Pl) (data:List UInt8) (m:M3):M3:=
 if cntP m.2.2 p=0/\zr6 p.1 p.2 data=true then(m.1.put p data,m.2.1.put p data,m.2.2.put p (cntP m.2.2 p+1))else(m.1,m.2.1,m.2.2.put p (cntP m.2.2 p+1))
theorem xA8 {u:Nat} (h:u<18446744073709551616): -9223372036854775808<=zagF u/\zagF u<=9223372036854775807:=by
 unfold zagF;split<;>omega
theorem zX1:(v0:GValue).ok:=⟨by decide,by decide,by decide⟩
theorem mkOk {k n:Int} {s:List UInt8} (h1: -9223372036854775808<=k/\k<=9223372036854775807) (h2: -9223372036854775808<=n/\n<=9223372036854775807) (h3:s.length<=maxLen):(GValue.mk k n s).ok:=⟨h1,h2,h3⟩
theorem xj4: ∀b:List UInt8,(zg5 b).v.ok
 | []=>zX1
 |c::rest=>by
  rw[zg5]
  unfold zr7
  split
  .exact zX1
  .split
   .unfold zf9
    split
    .exact zX1
    .split
     .exact zX1
     .have:=((c::rest).getD 1 0).toNat_lt
      exact mkOk (k:=1) (n:=((((c::rest).getD 1 0).toNat:Nat):Int)) (s:= []) (by decide) ⟨by omega,by omega⟩ (by decide)
   .split
    .split
     .exact zX1
     .exact mkOk (k:=2) (s:= []) (by decide) (xA8 (zP9 rest 0 0 (by decide) (by decide))) (by decide)
    .split
     .split
      .exact zX1
      .split
       .exact zX1
       .rename_i h
        exact mkOk (k:=3) (n:=0) (by decide) (by decide) (by unfold maxLen;omega)
     .exact zX1
theorem xa2: ∀(n:Nat) (b:List UInt8) (l:List GValue),rowG n b=some l->l.length=n/\ ∀v∈l,v.ok
 |0,b,l,h=>by
  rw[rowG]at h
  split at h
  .cases h;exact⟨rfl,fun v hv=>by cases hv⟩
  .cases h
 |n+1,b,l,h=>by
  rw[rowG]at h
  split at h
  .rw[B6]at h
   obtain⟨l',h1,rfl⟩:=h
   obtain⟨h2,h3⟩:=xa2 n _ l' h1
   refine⟨by simp[h2],fun v hv=> ?_⟩
   rcases Ag.1 hv with rfl|hv
   .exact xj4 b
   .exact h3 v hv
  .cases h
theorem xa1 (t:Nat) (data:List UInt8):(rowF tabsS t data).1.length<=maxLen/\ ∀v∈(rowF tabsS t data).1,v.ok:=by
 have h0:([]:List GValue).length<=maxLen/\ ∀v∈([]:List GValue),v.ok:=⟨A3 _,fun v hv=>by cases hv⟩
 unfold rowF
 split
 .rename_i h
  have hc:=(by decide: ∀T∈tabsS,T.cols.length<=maxLen) (tabsS[(t:Int).toNat]'(by omega)) (A8 _)
  unfold R.rowC
  split
  .unfold rowR
   split
   .rename_i l hl
    obtain⟨h1,h2⟩:=xa2 _ _ l hl
    exact⟨by rw[h1];exact hc,h2⟩
   .exact h0
  .exact h0
 .exact h0
theorem xS5 (g:Nat) (hg:g<1000) (key data:List UInt8) (hd:data.length<=maxB) (a b:Mp (List UInt8)) (sn:Mp Int) (ha:a.ok) (hb':b.ok) (hs:sn.ok) (hab:sn.at (g,key)=none->a.at (g,key)=none/\b.at (g,key)=none) (hpos: ∀i v,sn.at (g,key)=some (i,v)->1<=v/\v<=1000000):
  VCalls prog 20 [.ptr 3 0,.int .i64 g,.agg [.str key,.str data]] (runS a b sn) (fun r s=>r= .tup []/\s=tkS (zW7 (g,key) data (a,b,sn))):=by
 obtain⟨M,hM⟩:=eX (zW7 (g,key) data (a,b,sn))
 rw[hM]
 have ret: ∀(a' b':Mp (List UInt8)) (sn':Mp Int) (σl:St),M=(a',b',sn')->wret (some (.tup [])) 4 (fun r s=>r= .tup []/\s=tkS M) (a'.ob .str::b'.ob .str::sn'.ob (V.int .i64):: .box [.sl .ro xX,.sl .ro (tabsS.map GTable.row),.mp 0,.mp 1,.mp 2]::σl):=fun a' b' sn' σl h=>by
  subst h
  exact xJ 4 rfl rfl (xM 4 (by decide) a' b' sn') (A2 _) (zC rfl) ⟨rfl,rfl⟩
 have hof:=Of_w g hg
 refine iV 4 func20 ntmps20 results20 fun c hc hb=> ?_
 refine zA ?_
 simp[go_sem,runS,runB]
 refine zD hof cB (zH rfl) rfl ?_
 simp[go_sem,ofV]
 obtain⟨ob,hob⟩: ∃ob:Ob->R,ob=fun o=>xO (some (kPl,.int .i64 0)) [o] (.mp 0) (plV (g,key)) false:=⟨_,rfl⟩
 obtain⟨k1,hk1⟩:=eX (cntP sn (g,key))
 cases hat:sn.at (g,key)with
 |none=>
  have hget:=Mp.get_none hat
  have hcnt:k1=0:=by rw[<-hk1];unfold cntP;rw[hget];rfl
  subst hcnt
  refine yz5 [(5,1),(7,3)] ⟨0,6,[2],some (2,ob)⟩ (by simp) (by kernel_rfl) (by kernel_rfl) ?_
  simp[go_sem]
  refine yk3 (kv:=plV (g,key)) (id:=2) (n0:=⟨0,6,[2],some (2,ob)⟩) (by simp[go_sem]) (by simp[go_sem,plV]) mapT_0.2 hob rfl (Nat.lt_of_sub_eq_succ rfl) (zY9 (m:=sn) rfl (g,key) false) ?_
  simp[go_sem,hget]
  refine zn3 ?_ ?_
  .simp[go_sem,yn5 hs hat]
   refine⟨by simp,fun _=> .inr ?_⟩
   exact Kp.of_ex (k:=⟨0,6,[2],some (2,ob)⟩) (σ:= [a.ob .str,b.ob .str,sn.ob (V.int .i64),runB,.box [.str key,.str data],.box [.int .i64 g,.str key]]) (id:=2) (o:=sn.ob (V.int .i64)) (o':=(sn.ent (g,key) 0).ob (V.int .i64)) rfl rfl (fun q hq _=>by cases hq;rw[hob];first|done|exact xo2 rfl hat)
  simp[go_sem,yn5 hs hat,zV4 hs]
  obtain⟨i1,hi1⟩:=Mp.put_at sn (g,key) 1
  by_cases he:(ofS g).2.2=0
  rotate_left
  .have he':((ofS g).2.2 !=0)=true:=by simpa using he
   refine yU [] 6 (by simp) (by kernel_rfl) (by kernel_rfl) ?_
   simp[go_sem,he']
   exact ret a b _ _ (by rw[<-hM];unfold zW7 zr6;simp[hk1,he])
  have he':((ofS g).2.2 !=0)=false:=by simpa using he
  have e1:(sn.put (g,key) 1).ob (V.int .i64)= .mp (kvE (V.int .i64) (sn.put (g,key) 1).W) (sn.put (g,key) 1).bs (sn.put (g,key) 1).clk:=rfl
  refine yU [] 6 (by simp) (by kernel_rfl) (by kernel_rfl) ?_
  simp[go_sem,he',e1,zb4,hi1,za2,zd2]
  rw[<-e1]
  obtain⟨ha0,hb0⟩:=hab hat
  obtain⟨tn,T,htn,hT⟩: ∃(tn:Nat) (T:GTable),(ofS g).1=(tn:Int)/\tabsS[tn]? =some T:=by
   unfold ofS at he⊢
   split at he<;>rename_i q0
   .rw[if_pos q0];exact⟨0,_,rfl,rfl⟩
   .rw[if_neg q0]
    split at he<;>rename_i q1
    .rw[if_pos q1];exact⟨0,_,rfl,rfl⟩
    .rw[if_neg q1]
     split at he<;>rename_i q2
     .rw[if_pos q2];exact⟨1,_,rfl,rfl⟩
     .rw[if_neg q2]
      split at he<;>rename_i q3
      .rw[if_pos q3];exact⟨2,_,rfl,rfl⟩
      .exact absurd he (by decide)
  have hgd:tabsS.getD tn noT=T:=by rw[A5,hT];rfl
  have hrow:=xK7 xX tabsS tn data hd (by decide)
  have hrok:=xa1 tn data
  obtain⟨rf,hrf⟩:=eX (rowF tabsS tn data)
  rw[hrf]at hrow hrok
  have hkey:=yr2 tn T hT rf.1 hrok.1 hrok.2
  obtain⟨ks,hks⟩:=eX (keyS tn T rf.1)
  rw[hks]at hkey
  have hMc:zr6 g key data=(decide (rf.2=0)&&decide (ks=(((g:Nat):Int),key,0))):=by
   unfold zr6
   rw[htn,Ax,hgd,hrf,hks,he]
   simp
  have hM0:M=if zr6 g key data=true then(a.put (g,key) data,b.put (g,key) data,sn.put (g,key) 1)else(a,b,sn.put (g,key) 1):=by
   rw[<-hM];unfold zW7;rw[hk1];simp
  rw[hMc]at hM0
  obtain⟨kr,kk,ke⟩:=ks
  refine zA ?_
  refine yU [(7,0)] 6 (by simp) (by kernel_rfl) (by kernel_rfl) ?_
  simp[go_sem,htn]
  refine zW hrow cB (fun _=>zH rfl) rfl ?_
  simp[go_sem,rowV]
  by_cases r0:rf.2=0
  rotate_left
  .have r0':(rf.2 !=0)=true:=by simpa using r0
   simp[go_sem,r0']
   exact ret a b _ _ (by rw[hM0];simp[r0])
  have r0':(rf.2 !=0)=false:=by simpa using r0
  simp[go_sem,r0']
  refine zD hkey cB (zH rfl) rfl ?_
  simp[go_sem,keyV]
  by_cases k0:ke=0
  rotate_left
  .have k0':(ke==0)=false:=by simpa using k0
   simp[go_sem,k0']
   exact ret a b _ _ (by rw[hM0];simp[k0])
  have k0':(ke==0)=true:=by simpa using k0
  by_cases k2:kr=((g:Nat):Int)
  rotate_left
  .have k2':(kr==((g:Nat):Int))=false:=by simpa using k2
   simp[go_sem,k0',k2']
   exact ret a b _ _ (by rw[hM0];simp[k2])
  have k2':(kr==((g:Nat):Int))=true:=by simpa using k2
  by_cases k3:kk=key
  rotate_left
  .have k3':(kk==key)=false:=by simpa using k3
   simp[go_sem,k0',k2',k3']
   exact ret a b _ _ (by rw[hM0];simp[k3])
  have k3':(kk==key)=true:=by simpa using k3
  simp[go_sem,k0',k2',k3']
  refine yz5 [(14,3),(16,3),(17,3),(19,3)] ⟨0,6,[0,1],none⟩ (by simp) (by kernel_rfl) (by kernel_rfl) ?_
  simp[go_sem]
  have keep: ∀(τ:St) (i:Nat) (o o':Ob),([0,1]:List Nat).contains i=true->τ[i]? =some o->Kp.of ⟨0,6,[0,1],none⟩ (τ.set i o')=Kp.of ⟨0,6,[0,1],none⟩ τ:=fun τ i o o' h1 h2=>Kp.of_ex (k:=⟨0,6,[0,1],none⟩) h1 h2 (fun p hp _=>by cases hp)
  refine zn3 ?_ ?_
  .simp[go_sem,zI7 ha ha0]
   refine⟨by simp,fun _=> .inr ?_⟩
   exact keep [a.ob .str,b.ob .str,(sn.put (g,key) 1).ob (V.int .i64),runB,.box [.str key,.str data],.box [.int .i64 g,.str key]] 0 _ ((a.ent (g,key) []).ob .str) rfl rfl
  simp[go_sem,zI7 ha ha0]
  refine zB1 ?_ ?_
  .simp[go_sem,zw1 ha]
   refine⟨by simp,fun _=> .inr ?_⟩
   exact keep [(a.ent (g,key) []).ob .str,b.ob .str,(sn.put (g,key) 1).ob (V.int .i64),runB,.box [.str key,.str data],.box [.int .i64 g,.str key]] 0 _ ((a.put (g,key) data).ob .str) rfl rfl
  simp[go_sem,zw1 ha]
  refine zn3 ?_ ?_
  .simp[go_sem,zI7 hb' hb0]
   refine⟨by simp,fun _=> .inr ?_⟩
   exact keep [(a.put (g,key) data).ob .str,b.ob .str,(sn.put (g,key) 1).ob (V.int .i64),runB,.box [.str key,.str data],.box [.int .i64 g,.str key]] 1 _ ((b.ent (g,key) []).ob .str) rfl rfl
  simp[go_sem,zI7 hb' hb0]
  refine zB1 ?_ ?_
  .simp[go_sem,zw1 hb']
   refine⟨by simp,fun _=> .inr ?_⟩
   exact keep [(a.put (g,key) data).ob .str,(b.ent (g,key) []).ob .str,(sn.put (g,key) 1).ob (V.int .i64),runB,.box [.str key,.str data],.box [.int .i64 g,.str key]] 1 _ ((b.put (g,key) data).ob .str) rfl rfl
  simp[go_sem,zw1 hb']
  exact ret (a.put (g,key) data) (b.put (g,key) data) _ _ (by rw[hM0];simp[r0,k0,k2,k3])
 |some q=>
  obtain⟨i,v⟩:=q
  obtain⟨hv1,hv2⟩:=hpos i v hat
  have hget:=Mp.get_some hat
  have hcnt:k1=v:=by rw[<-hk1];unfold cntP;rw[hget];rfl
  subst hcnt
  have hwv:IntKind.i64.wrap (k1+1)=k1+1:=i64_id (by omega) (by omega)
  have hMv:M=(a,b,sn.put (g,key) (k1+1)):=by
   rw[<-hM];unfold zW7;rw[hk1,if_neg (fun h=>by omega)]
  refine yz5 [(5,1),(7,3)] ⟨0,6,[2],some (2,ob)⟩ (by simp) (by kernel_rfl) (by kernel_rfl) ?_
  simp[go_sem]
  refine yk3 (kv:=plV (g,key)) (id:=2) (n0:=⟨0,6,[2],some (2,ob)⟩) (by simp[go_sem]) (by simp[go_sem,plV]) mapT_0.2 hob rfl (Nat.lt_of_sub_eq_succ rfl) (zY9 (m:=sn) rfl (g,key) false) ?_
  simp[go_sem,hget,hwv]
  refine zn3 ?_ ?_
  .simp[go_sem,yn4 hs hat]
   trivial
  simp[go_sem,yn4 hs hat,yu1 hs hat]
  obtain⟨i1,hi1⟩:=Mp.put_at sn (g,key) (k1+1)
  by_cases he:(ofS g).2.2=0
  rotate_left
  .have he':((ofS g).2.2 !=0)=true:=by simpa using he
   refine yU [] 6 (by simp) (by kernel_rfl) (by kernel_rfl) ?_
   simp[go_sem,he']
   exact ret a b _ _ hMv
  have he':((ofS g).2.2 !=0)=false:=by simpa using he
  have e1:(sn.put (g,key) (k1+1)).ob (V.int .i64)= .mp (kvE (V.int .i64) (sn.put (g,key) (k1+1)).W) (sn.put (g,key) (k1+1)).bs (sn.put (g,key) (k1+1)).clk:=rfl
  have h1:decide (k1+1>1)=true:=decide_eq_true (by omega)
  have h1':decide (1<k1+1)=true:=decide_eq_true (by omega)
  refine yU [] 6 (by simp) (by kernel_rfl) (by kernel_rfl) ?_
  simp[go_sem,he',e1,zb4,hi1,za2,zd2,h1]
  exact ret a b _ _ hMv
structure LnOk (x:Ln):Prop where
 tab: ∃(tn:Nat) (T:GTable),(ofS x.r).1=(tn:Int)/\tabsS[tn]? =some T/\mayT T.cols x.v=0
 err:(ofS x.r).2.2=0
 ok: ∀v∈x.v,v.ok
structure NowOk (b:Mp (List UInt8)) (l:List Ln):Prop where
 ok:b.ok
 rise:Rise (l.map Ln.at)
 perm:b.W.Perm (l.map fun x=>(x.at,yL x.v))
 rows: ∀x∈l,LnOk x
theorem Rise.nodup {l:List Pl} (h:Rise l):l.Nodup:=h.imp fun{a b} hab e=>by subst e;rw[zJ3]at hab;cases hab
theorem zh7 (l:List Ln) (x:Ln):(zR0 l x).Perm (x::l):=by
 unfold zR0
 have h:=Cm (p:=fun y:Ln=>xA y.at x.at) (l:=l)
 have h2:(List.takeWhile (fun y:Ln=>xA y.at x.at) l++x::List.dropWhile (fun y:Ln=>xA y.at x.at) l).Perm (x::(List.takeWhile (fun y:Ln=>xA y.at x.at) l++List.dropWhile (fun y:Ln=>xA y.at x.at) l)):=Du
 rw[h]at h2
 exact h2
theorem atF_iff {l:List Ln} {p:Pl}:atF l p=true↔p∈l.map Ln.at:=by
 unfold atF
 rw[Da,Ac]
 exact⟨fun⟨x,h1,h2⟩=>⟨x,h1,by simpa using h2⟩,fun⟨x,h1,h2⟩=>⟨x,h1,by simpa using h2⟩⟩
theorem zF4 {p:Pl}: ∀{l:List Ln},Rise (l.map Ln.at)->p∉l.map Ln.at-> ∀y∈l.dropWhile (fun y=>xA y.at p),xA p y.at=true
 | [],_,_,y,hy=>by simp at hy
 |z::l,hr,hn,y,hy=>by
  unfold Rise at hr
  rw[Al,Cr]at hr
  rw[List.dropWhile_cons]at hy
  by_cases q:xA z.at p=true
  .rw[if_pos q]at hy
   exact zF4 (l:=l) hr.2 (fun h=>hn (B5 _ h)) y hy
  .rw[if_neg q]at hy
   have hz:xA p z.at=true:=by
    rcases zz8 z.at p with r|r|r
    .exact absurd r q
    .exact absurd (Ag.2 (.inl r.symm)) hn
    .exact r
   rcases Ag.1 hy with rfl|hy
   .exact hz
   .exact zG3 hz (hr.1 _ (Ac.2 ⟨y,hy,rfl⟩))
theorem zy6 {α:Type} {p:α->Bool}: ∀{l:List α},∀y∈l.takeWhile p,p y=true
 | [],y,hy=>by simp at hy
 |z::l,y,hy=>by
  rw[List.takeWhile_cons]at hy
  by_cases q:p z=true
  .rw[if_pos q]at hy
   rcases Ag.1 hy with rfl|hy
   .exact q
   .exact zy6 (l:=l) y hy
  .rw[if_neg q]at hy;cases hy
theorem yT4 {l:List Ln} {x:Ln} (h:Rise (l.map Ln.at)) (hn:atF l x.at=false):Rise ((zR0 l x).map Ln.at):=by
 have hn':x.at∉l.map Ln.at:=fun q=>by rw[atF_iff.2 q]at hn;cases hn
 have hd:=zF4 h hn'
 have ht: ∀y∈l.takeWhile (fun y:Ln=>xA y.at x.at),xA y.at x.at=true:=zy6
 have hl:=Cm (p:=fun y:Ln=>xA y.at x.at) (l:=l)
 unfold zR0
 rw[<-hl]at h
 revert hd ht h
 generalize l.takeWhile (fun y:Ln=>xA y.at x.at)=t
 generalize l.dropWhile (fun y:Ln=>xA y.at x.at)=d
 intro h hd ht
 unfold Rise at h⊢
 rw[Dj,De]at h
 rw[Dj,Al,De,Cr]
 obtain⟨h1,h2,h3⟩:=h
 refine⟨h1,⟨fun p hp=> ?_,h2⟩,fun p hp q hq=> ?_⟩
 .obtain⟨y,hy,rfl⟩:=Ac.1 hp;exact hd y hy
 .obtain⟨y,hy,rfl⟩:=Ac.1 hp
  rcases Ag.1 hq with rfl|hq
  .exact ht y hy
  .exact h3 _ (Ac.2 ⟨y,hy,rfl⟩) _ hq
theorem NowOk.at_none {b:Mp (List UInt8)} {l:List Ln} (h:NowOk b l) {p:Pl}:b.at p=none↔atF l p=false:=by
 constructor
 .intro q
  cases r:atF l p with
  |false=>rfl
  |true=>
   obtain⟨x,hx,he⟩:=Ac.1 (atF_iff.1 r)
   have:(p,yL x.v)∈b.W:=h.perm.mem_iff.2 (Ac.2 ⟨x,hx,by rw[he]⟩)
   exact absurd rfl (zJ0 q _ this)
 .intro q
  cases r:b.at p with
  |none=>rfl
  |some w=>
   have hm:(p,w.2)∈b.W:=B1 (zi1 (W:=b.W) (i:=w.1) (v:=w.2) r)
   obtain⟨x,hx,he⟩:=Ac.1 (h.perm.mem_iff.1 hm)
   have:x.at=p:=congrArg Prod.fst he
   rw[atF_iff.2 (Ac.2 ⟨x,hx,this⟩)]at q
   cases q
theorem NowOk.ins {b:Mp (List UInt8)} {l:List Ln} (h:NowOk b l) {x:Ln} (hx:LnOk x) (hn:atF l x.at=false):NowOk (b.put x.at (yL x.v)) (zR0 l x):=by
 have hb:=h.at_none.2 hn
 refine⟨Mp.put_ok h.ok _ _,yT4 h.rise hn, ?_,fun y hy=> ?_⟩
 .have e:(b.put x.at (yL x.v)).W=b.W++ [(x.at,yL x.v)]:=by unfold Mp.put;rw[hb]
  rw[e]
  have h1:=((zh7 l x).map fun x:Ln=>(x.at,yL x.v)).symm
  refine List.Perm.trans ?_ h1
  rw[Al]
  exact(List.perm_append_singleton _ _).trans (h.perm.cons _)
 .rcases Ag.1 ((zh7 l x).mem_iff.1 hy)with rfl|hy
  .exact hx
  .exact h.rows y hy
theorem zY4: ∀(r:List GExpr) (acc:List GValue),(∀e∈r,EOk e)->(∀v∈acc,v.ok)->(evsX noT [] r acc).2=0->(evsX noT [] r acc).1.length=acc.length+r.length/\ ∀v∈(evsX noT [] r acc).1,v.ok
 | [],acc,_,ha,_=>⟨rfl,ha⟩
 |e::r,acc,he,ha,h=>by
  rw[evsX]at h⊢
  by_cases q:(evR noT [] e).2=0
  .rw[if_neg (fun h=>h q)]at h⊢
   have hv:(evR noT [] e).1.ok:=by
    have:=xO7 (he e (by simp)) (by rw[<-xp3];exact q)
    rw[xp3]
    exact(xT0 this).1
   have ih:=zY4 r (acc++ [(evR noT [] e).1]) (fun x hx=>he x (by simp[hx])) (fun v hv'=>by
    rcases B4.1 hv' with h|h
    .exact ha v h
    .simp at h;subst h;exact hv) h
   exact⟨by rw[ih.1];simp;omega,ih.2⟩
  .rw[if_pos q]at h;exact absurd h q
def out0:List V:= [.sl .full [],.int .i64 0]
def insR (a:Mp (List UInt8)) (sn:Mp Int) (cnt:Int) (M:List Ln×Int) (r:V) (s:St):Prop:=
 ∃(b':Mp (List UInt8)),s=runS a b' sn/\((M.2≠0/\r= .tup [.agg (Ot.row ⟨0,[]⟩),.int .i64 M.2])∨(M.2=0/\r= .tup [.agg (Ot.row ⟨cnt,[]⟩),.int .i64 0]/\NowOk b' M.1))
theorem xv4 {b:Mp (List UInt8)} {r:Int} {k d:List UInt8} (h:b.at (r,k)=none):Ob.mp (kvE V.str b.W++ [.agg [.int .i64 r,.str k],.str d]) (b.bs++ [b.clk]) (b.clk+1)=(b.put (r,k) d).ob V.str:=by
 unfold Mp.put Mp.ob
 rw[h]
 show _=Ob.mp (kvE V.str (b.W++ [((r,k),d)])) _ _
 rw[<-yp6]
 rfl
theorem zY7 (tn:Nat) (T:GTable) (hT:tabsS[tn]? =some T) (row:List GValue) (h:(keyS tn T row).2.2=0):mayT T.cols row=0/\(ofS (keyS tn T row).1).1=(tn:Int)/\(ofS (keyS tn T row).1).2.2=0:=by
 obtain⟨htn,_⟩:=A1.1 hT
 have h3:tn<3:=htn
 unfold keyS at h⊢
 by_cases h1:mayT T.cols row≠0
 .rw[if_pos h1]at h;exact absurd h h1
 .rw[if_neg h1]at h⊢
  refine⟨Classical.not_not.1 h1, ?_⟩
  unfold yq6
  generalize row.getD 0 zeroV=x at h⊢
  match tn,h3 with
  |0,_=>
   by_cases h2:x.n=0∨x.n=1
   .rw[if_neg (fun q=>q.2 h2)]
    rcases h2 with h2|h2
    .simp[wJ,ofS,h2]
    .simp[wJ,ofS,h2]
   .rw[if_pos ⟨rfl,h2⟩]at h;cases h
  |1,_=>simp[wJ,ofS]
  |2,_=>simp[wJ,ofS]
theorem yI9 (tn:Nat) (T:GTable) (hT:tabsS[tn]? =some T) (st:GStmt) (hst:SOk st) (a b:Mp (List UInt8)) (sn:Mp Int) (l:List Ln) (hnow:NowOk b l):
  VCalls prog 31 [.ptr 3 0,.int .i64 tn,.agg st.row] (runS a b sn) (insR a sn st.rows.length (insF tn T st.rows l)):=by
 obtain⟨R,hR⟩:=eX st.rows
 obtain⟨hRl,hRx⟩:=hst.rows
 rw[hR]at hRl hRx⊢
 generalize hM:insF tn T R l=M
 have bad: ∀(b':Mp (List UInt8)) (e:Int) (σl:St),M.2=e->e≠0->wret (some (.tup [.agg [.sl .full [],.int .i64 0],.int .i64 e])) 4 (insR a sn R.length M) (a.ob .str::b'.ob .str::sn.ob (V.int .i64):: .box [.sl .ro xX,.sl .ro (tabsS.map GTable.row),.mp 0,.mp 1,.mp 2]::σl):=fun b' e σl h1 h2=>
  xJ 4 (s:=runS a b' sn) (r:= .tup [.agg (Ot.row ⟨0,[]⟩),.int .i64 e]) rfl rfl (xM 4 (by decide) a b' sn) (A2 _) (xT ⟨zc5 ⟨yX,zZ rfl,trivial⟩,za6 rfl,trivial⟩) ⟨b',rfl,.inl ⟨by rw[h1];exact h2,by rw[h1]⟩⟩
 have okS: ∀(b':Mp (List UInt8)) (n:Nat),6<=n->([a.ob .str,b'.ob .str,sn.ob (V.int .i64),.box [.sl .ro xX,.sl .ro (tabsS.map GTable.row),.mp 0,.mp 1,.mp 2],.box st.row,.box out0]:St).all (ltOb n)=true:=fun b' n hn=>by
  have h:=xM n (by omega) a b' sn
  simp only[runS,runB,Am,Cp,Cx]at h⊢
  rw[A4,A4,A4]at h⊢
  refine⟨h.1,h.2.1,h.2.2.1, ?_⟩
  rw[A4]
  exact⟨h.2.2.2,by simp[ltOb,ltC,ltK,GStmt.row,out0]⟩
 have okS7: ∀(b':Mp (List UInt8)) (k:Nat),([a.ob .str,b'.ob .str,sn.ob (V.int .i64),.box [.sl .ro xX,.sl .ro (tabsS.map GTable.row),.mp 0,.mp 1,.mp 2],.box st.row,.box out0,.app k 3]:St).all (ltOb 7)=true:=fun b' k=>by
  have h:=okS b' 7 (by decide)
  simp only[Am,Cp,Cx]at h⊢
  rw[show ltOb 7 (.app k 3)=true from rfl,Cx]
  exact h
 refine iV 4 func31 ntmps31 results31 fun c hc hb=> ?_
 refine zA ?_
 simp[go_sem,runS,runB,hR]
 refine zL (S:=Nat×Mp (List UInt8)×List Ln) [0,1,5,6,22,23,24] (fun u=> [.ptr 3 0,.int .i64 tn,.ptr 4 0,.ptr 5 0,.sl .ro (R.map fun(l:List GExpr)=> [V.sl .ro (l.map GExpr.row)]),.int .i64 R.length,.int .i64 u.1])
  (fun u=> [a.ob .str,u.2.1.ob .str,sn.ob (V.int .i64),.box [.sl .ro xX,.sl .ro (tabsS.map GTable.row),.mp 0,.mp 1,.mp 2],.box st.row,.box out0]) (fun u=>R.length - u.1)
  (fun u=>u.1<=R.length/\NowOk u.2.1 u.2.2/\insF tn T (R.drop u.1) u.2.2=M) hc hb (0,b,l) ⟨A3 _,hnow,hM⟩ ?_ ?_
 .exact at_n 6 (by simp[go_sem,hR,out0]) rfl (okS b 6 (by decide)) (by decide) (zG (by simp[go_sem]) rfl)
 rintro⟨i,b1,l1⟩ ⟨hi,hn1,hM1⟩
 simp only at hi hn1 hM1
 by_cases q:i<R.length
 rotate_left
 .rw[A9 (by omega),insF]at hM1
  subst hM1
  refine zA ?_
  simp[go_sem,q,hR,out0]
  exact xJ 4 (s:=runS a b1 sn) (r:= .tup [.agg (Ot.row ⟨R.length,[]⟩),.int .i64 0]) rfl rfl (xM 4 (by decide) a b1 sn) (A2 _) (xT ⟨zc5 ⟨yX,zZ rfl,trivial⟩,za6 rfl,trivial⟩) ⟨b1,rfl,.inr ⟨rfl,rfl,hn1⟩⟩
 have ei:=zV q (by omega)
 obtain⟨x,hx⟩:=eX (R[i])
 obtain⟨hxl,hxe⟩:=hRx x (hx▸A8 q)
 have hev:=zY4 x [] hxe (fun v hv=>by cases hv)
 rw[A6 q,hx,insF]at hM1
 obtain⟨E,hE⟩:=eX (evsX noT [] x [])
 rw[hE]at hM1 hev
 refine zA ?_
 simp[go_sem,q,hx]
 refine zn1 10 3 (by decide) (by simp[go_sem]) ?_
 refine zL (S:=Nat×List GValue) [0,1,5,6,10,22,23,24,28,29,30] (fun u=> [.ptr 3 0,.int .i64 tn,.ptr 4 0,.ptr 5 0,.sl (.app 6) (u.2.map GValue.row),.sl .ro (R.map fun(l:List GExpr)=> [V.sl .ro (l.map GExpr.row)]),.int .i64 R.length,.int .i64 i,.sl .ro (x.map GExpr.row),.int .i64 x.length,.int .i64 u.1])
  (fun u=> [a.ob .str,b1.ob .str,sn.ob (V.int .i64),.box [.sl .ro xX,.sl .ro (tabsS.map GTable.row),.mp 0,.mp 1,.mp 2],.box st.row,.box out0,.app u.2.length 3]) (fun u=>x.length - u.1)
  (fun u=>u.1<=x.length/\u.2.length<=u.1/\evsX noT [] (x.drop u.1) u.2=E) hc hb (0,[]) ⟨A3 _,A2 _,hE⟩ ?_ ?_
 .exact at_n 7 (by simp[go_sem,out0]) rfl (okS7 b1 _) (by decide) (zG (by simp[go_sem]) rfl)
 rintro⟨j,acc⟩ ⟨hj,hal,hE1⟩
 simp only at hj hal hE1
 by_cases qj:j<x.length
 .have ej:=zV qj (by omega)
  obtain⟨e,he⟩:=eX (x[j])
  have heo:=hxe e (he▸A8 qj)
  rw[A6 qj,he,evsX,xp3]at hE1
  have hcall:=xB2 e heo
  obtain⟨kv,hkv⟩:=eX (evN e)
  rw[hkv]at hE1 hcall
  refine zA ?_
  simp[go_sem,qj,he]
  refine zD hcall cB ⟨zt4 ⟨zZ rfl,yX,zZ rfl,zZ rfl,zZ rfl,yX,yX,yX,zZ rfl,zZ rfl,zZ rfl,trivial⟩,zX,zR (by simp[go_sem]) (by rw[GExpr.row_eq];rfl)⟩ rfl ?_
  simp[go_sem,valP]
  by_cases q2:kv.2=0
  rotate_left
  .have q2':(kv.2 !=0)=true:=by simpa using q2
   rw[if_pos q2]at hE1
   subst hE1
   simp only at hM1
   rw[if_pos q2]at hM1
   simp[go_sem,q2',out0]
   exact bad b1 kv.2 _ (by rw[<-hM1]) q2
  have q2':(kv.2 !=0)=false:=by simpa using q2
  rw[if_neg (fun h=>h q2)]at hE1
  simp[go_sem,q2']
  refine zJ ⟨by omega,yC rfl⟩ ?_
  simp[go_sem,ej]
  exact zI (j+1,acc++ [kv.1]) ⟨by show x.length - (j+1)<x.length - j;omega,⟨qj,by show(acc++ [kv.1]).length<=j+1;simp;omega,hE1⟩,at_n 7 (by simp[go_sem,out0]) rfl (okS7 b1 _) (by decide) (zG (by simp[go_sem]) rfl)⟩
 rw[A9 (by omega),evsX]at hE1
 subst hE1
 obtain⟨_,hvo⟩:=hev rfl
 simp only at hM1 hvo
 rw[if_neg (fun h=>h rfl)]at hM1
 have hkey:=yr2 tn T hT acc (by unfold maxLen;omega) hvo
 have hkok:=zY7 tn T hT acc
 obtain⟨⟨kr,kk,ke⟩,hks⟩: ∃ks,keyS tn T acc=ks:=⟨_,rfl⟩
 rw[hks]at hM1 hkey hkok
 simp only at hM1 hkok
 refine zA ?_
 simp[go_sem,qj]
 refine zD hkey cB ⟨zC rfl,zC rfl,zX,trivial⟩ rfl ?_
 simp[go_sem,keyV]
 by_cases k0:ke=0
 rotate_left
 .have k0':(ke !=0)=true:=by simpa using k0
  rw[if_pos k0]at hM1
  simp[go_sem,k0',out0]
  exact bad b1 ke _ (by rw[<-hM1]) k0
 have k0':(ke !=0)=false:=by simpa using k0
 rw[if_neg (fun h=>h k0)]at hM1
 obtain⟨hmay,ho1,ho2⟩:=hkok k0
 have hLr:=zz9 ((by decide: ∀T∈tabsS,T.cols.length<=20) T (B1 hT)) hvo hmay
 have hdata:=xk5 acc hLr
 have eB:b1.ob .str= .mp (kvE .str b1.W) b1.bs b1.clk:=rfl
 simp[go_sem,k0']
 cases hat:b1.at (kr,kk)with
 |some w=>
  have hA:atF l1 (kr,kk)=true:=by
   cases r:atF l1 (kr,kk)with
   |true=>rfl
   |false=>rw[hn1.at_none.2 r]at hat;cases hat
  rw[if_pos hA]at hM1
  have hat':idxW (kr,kk) b1.W=some w:=hat
  refine yU [] 8 (by simp) (by kernel_rfl) (by kernel_rfl) ?_
  simp[go_sem,eB,zb4,hat',za2,zd2,out0]
  rw[<-eB]
  exact bad b1 18 _ (by rw[<-hM1]) (by decide)
 |none=>
  have hA:=hn1.at_none.1 hat
  rw[if_neg (by rw[hA];decide)]at hM1
  have hat':idxW (kr,kk) b1.W=none:=hat
  have hput:=xv4 (d:=yL acc) hat
  have hnew:=hn1.ins (x:=⟨kr,kk,acc⟩) ⟨⟨tn,T,ho1,hT,hmay⟩,ho2,hvo⟩ hA
  refine yU [] 8 (by simp) (by kernel_rfl) (by kernel_rfl) ?_
  simp[go_sem,eB,zb4,hat',za2,zd2]
  refine zA ?_
  refine yU [(6,0)] 8 (by simp) (by kernel_rfl) (by kernel_rfl) ?_
  simp[go_sem]
  refine zW hdata cB (fun _=>⟨zX,trivial⟩) rfl ?_
  simp[go_sem,zb4,hat',za2,zd2,hput,ei]
  exact zI (i+1,b1.put (kr,kk) (yL acc),zR0 l1 ⟨kr,kk,acc⟩) ⟨by show R.length - (i+1)<R.length - i;omega,⟨q,hnew,hM1⟩,at_n 6 (by simp[go_sem,out0]) rfl (okS _ 6 (by decide)) (by decide) (zG (by simp[go_sem]) rfl)⟩
theorem yC0 (l:List GValue) (hl:l.length<=10000) (hz:l≠ []):VCalls prog 79 [.sl .ro (l.map GValue.row)] [] (fun r s=>r= .lsv 0 3 l.length 0 l.length/\s= [.lst (l.map GValue.row) 3]):=by
 refine iV 0 func79 ntmps79 results79 fun c hc hb=> ?_
 refine zv7 7 (by decide) ?_
 refine zA ?_
 have hp:0<l.length:=by cases l with
  |nil=>exact absurd rfl hz
  |cons a l=>simp
 have hu:uni 3 (l.map GValue.row):=by
  intro r hr
  obtain⟨v,_,rfl⟩:=Ac.1 hr
  rfl
 simp[go_sem,hp]
 refine zJ ⟨by omega,by simp[uni],hu⟩ ?_
 simp[go_sem]
 exact yk1 (by simp) ⟨rfl,rfl⟩
theorem ys9 (T:GTable) (hT:T.cols.length<=maxLen) (row:List GValue) (hv: ∀v∈row,v.ok) (e:GExpr) (he:EOk e):Pure prog 66 [.agg T.row,.sl .ro (row.map GValue.row),.agg e.row] (valP (evR T row e)):=by
 have hty:=yt0 T hT e he
 have hok:= @yp8 T row
 generalize hM:evR T row e=M
 unfold evR at hM
 have ret: ∀(v:GValue) (e:Int) (σ:St),(v,e)=M->wret (some (.tup [.agg v.row,.int .i64 e])) 0 (fun r s=>r=valP M/\s= []) σ:=fun v e σ h=>zn0 h
 refine iV 0 func66 ntmps66 results66 fun c hc hb=> ?_
 refine zA ?_
 simp[go_sem]
 refine zD hty cB (zR (by simp[go_sem]) (by rw[GExpr.row_eq];rfl)) rfl ?_
 simp[go_sem,wA]
 by_cases q:(zb0 T e).2=0
 rotate_left
 .have q':((zb0 T e).2 !=0)=true:=by simpa using q
  rw[if_pos q]at hM
  simp[go_sem,q']
  exact ret zeroV _ _ hM
 have q':((zb0 T e).2 !=0)=false:=by simpa using q
 have n1: ¬(zb0 T e).2≠0:=fun h=>h q
 rw[if_neg n1]at hM
 by_cases hlen:row.length=T.cols.length
 rotate_left
 .have h1:((row.length:Int) !=T.cols.length)=true:=by simp;omega
  rw[if_pos (by unfold zC5;rw[decide_eq_false hlen,E1])]at hM
  simp[go_sem,q',h1]
  exact ret zeroV 9 _ hM
 have h1:((row.length:Int) !=T.cols.length)=false:=by simp;omega
 obtain⟨mr,hmr⟩:=eX (zC5 T.cols row)
 have hmr':=hmr
 unfold zC5 at hmr'
 rw[decide_eq_true hlen,B8]at hmr'
 rw[hmr]at hM hok
 simp[go_sem,q',h1]
 refine zL (S:=Nat×GValue) [1,3,5,6,29,30,31] (fun u=> [.sl .ro (row.map GValue.row),.ptr 0 0,.ptr 1 0,.ptr 2 0,.sl .ro (row.map GValue.row),.int .i64 row.length,.int .i64 u.1])
   (fun u=> [.box T.row,.box e.row,.box u.2.row]) (fun u=>row.length - u.1) (fun u=>u.1<=row.length/\(((row.zip T.cols).drop u.1).all fun p=>yB8 p.1 p.2)=mr) hc hb (0,zeroV) ⟨A3 _,hmr'⟩ ?_ ?_
 .exact at_n 3 (by simp[go_sem,zeroV]) rfl (by simp[ltOb,ltC,ltK,GExpr.row_eq,GTable.row,GValue.row]) (A3 _) (zG (by simp[go_sem]) rfl)
 rintro⟨i,v0⟩ ⟨hi,hinv⟩
 simp only at hi hinv
 by_cases p:i<row.length
 rotate_left
 .rw[A9 (by rw[List.length_zip];omega)]at hinv
  have hm:mr=true:=hinv.symm
  rw[if_neg (by rw[hm];decide)]at hM
  have hrow:=hok hm hv
  have hcall:Pure prog 112 [.agg T.row,.sl .ro (row.map GValue.row),.agg e.row] (valP (evF T row e)):=by
   unfold zb0 at q
   by_cases d:wB e<=64
   .rw[if_pos d]at q;exact yN8 hrow hT 64 e d he.wide he.good q
   .rw[if_neg d]at q;cases q
  rw[hM]at hcall
  refine zA ?_
  simp[go_sem,p]
  refine zD hcall cB ⟨zC rfl,zX,zN2 e,trivial⟩ rfl ?_
  simp[go_sem,valP]
  exact zn0 rfl
 have qc:i<T.cols.length:=by omega
 have ei:=zV p (by unfold maxLen at hT;omega)
 obtain⟨v,hvi⟩:=eX (row[i])
 obtain⟨C,hC⟩:=eX (T.cols[i])
 have qz:i<(row.zip T.cols).length:=by rw[List.length_zip];omega
 rw[zE9 _ _ _ qz,List.getElem_zip,hvi,hC]at hinv
 obtain⟨tl,hTl⟩: ∃tl,(((row.zip T.cols).drop (i+1)).all fun p=>yB8 p.1 p.2)=tl:=⟨_,rfl⟩
 rw[hTl]at hinv
 unfold yB8 at hinv
 have hmy:=ym5 v
 simp only at hinv
 generalize mayF v=mv at hmy hinv
 refine zA ?_
 simp[go_sem,p,hvi]
 refine yU [(1,0)] 4 (by simp) (by kernel_rfl) (by kernel_rfl) ?_
 simp[go_sem]
 refine zW hmy cB (fun _=>⟨zC rfl,trivial⟩) rfl ?_
 refine(A7 mv).elim (fun p2=> ?_) (fun p2=> ?_)
 rotate_left
 .have hm:mr=false:=by rw[<-hinv,p2];simp
  rw[if_pos hm]at hM
  simp[go_sem,p2]
  exact ret zeroV 9 _ hM
 rw[p2,B8]at hinv
 simp[go_sem,p2]
 by_cases k1:v.kind=C.kind
 .have k1':(v.kind !=C.kind)=false:=by simpa using k1
  have k1'':(v.kind==C.kind)=true:=by simpa using k1
  rw[k1'',Eg,B8]at hinv
  simp[go_sem,k1',qc,hC,ei]
  exact zI (i+1,v0) ⟨by show row.length - (i+1)<row.length - i;omega,⟨p,hTl.trans hinv⟩,at_n 3 (by simp[go_sem,GExpr.row_eq]) rfl (by simp[ltOb,ltC,ltK,GExpr.row_eq]) (by decide) (zG (by simp[go_sem]) rfl)⟩
 have k1':(v.kind !=C.kind)=true:=by simpa using k1
 have k1'':(v.kind==C.kind)=false:=by simpa using k1
 rw[k1'',Bool.or_false]at hinv
 simp[go_sem,k1',qc,hC]
 by_cases k0:v.kind=0
 .have k0':(v.kind !=0)=false:=by simpa using k0
  have k0'':(v.kind==0)=true:=by simpa using k0
  rw[k0'',B8]at hinv
  simp[go_sem,k0',ei]
  exact zI (i+1,v0) ⟨by show row.length - (i+1)<row.length - i;omega,⟨p,hTl.trans hinv⟩,at_n 3 (by simp[go_sem,GExpr.row_eq]) rfl (by simp[ltOb,ltC,ltK,GExpr.row_eq]) (by decide) (zG (by simp[go_sem]) rfl)⟩
 have k0':(v.kind !=0)=true:=by simpa using k0
 have k0'':(v.kind==0)=false:=by simpa using k0
 rw[k0'',E1]at hinv
 rw[if_pos hinv.symm]at hM
 simp[go_sem,k0']
 exact ret zeroV 9 _ hM
theorem xp4 {T:GTable} {row:List GValue} (hv: ∀v∈row,v.ok) {e:GExpr} (he:EOk e) (h:(evR T row e).2=0):VK (evR T row e).1 (zb0 T e).1:=by
 unfold evR at h⊢
 by_cases q:(zb0 T e).2=0
 rotate_left
 .rw[if_pos q]at h;exact absurd h q
 have n1: ¬(zb0 T e).2≠0:=fun h=>h q
 rw[if_neg n1]at h⊢
 cases hm:zC5 T.cols row with
 |false=>rw[hm]at h;simp at h
 |true=>
  rw[hm]at h
  simp only[Bool.true_eq_false,if_false]at h⊢
  unfold zb0 at q⊢
  by_cases d:wB e<=64
  .rw[if_pos d]at q⊢
   exact yV7 (yp8 hm hv) 64 e d he.good q h
  .rw[if_neg d]at q;cases q
theorem xI3 (T:GTable) (e:GExpr) (x:Ln) (l:List Ln) (acc:GValue):sumF T e (x::l) acc=
  if(evR T x.v e).2≠0 then(zeroV,(evR T x.v e).2)
  else if(evR T x.v e).1.kind=0 then sumF T e l acc
  else if(rngF (acc.n+(evR T x.v e).1.n)).2≠0 then(zeroV,(rngF (acc.n+(evR T x.v e).1.n)).2)
  else sumF T e l ⟨2,(rngF (acc.n+(evR T x.v e).1.n)).1,[]⟩:=rfl
theorem xI8 (T:GTable) (hT:T.cols.length<=maxLen) (e:GExpr) (he:EOk e) (l:List Ln) (hl:l.length<=10000) (hok: ∀x∈l,∀v∈x.v,v.ok):VCalls prog 125 [.agg T.row,.agg e.row,.lsv 0 3 l.length 0 l.length] [.lst (l.map Ln.row) 3] (fun r s=>r=valP (sumF T e l zeroV)/\s= [.lst (l.map Ln.row) 3]):=by
 generalize hM:sumF T e l zeroV=M
 have ret: ∀(v:GValue) (er:Int) (σ:St),(v,er)=M->σ.take 1= [.lst (l.map Ln.row) 3]->wret (some (.tup [.agg v.row,.int .i64 er])) 1 (fun r s=>r=valP M/\s= [.lst (l.map Ln.row) 3]) σ:=by
  rintro v er σ rfl h
  exact xJ 1 h rfl (by simp[ltOb,ltC,ltK,Ln.row]) (A2 _) (zC rfl) ⟨rfl,rfl⟩
 refine iV 1 func125 ntmps125 results125 fun c hc hb=> ?_
 refine zA ?_
 simp[go_sem]
 refine zL (S:=Nat×GValue) [3,4,6,7,8,13,14,15] (fun u=> [.ptr 1 0,.ptr 2 0,.ptr 3 0,.int .i64 0,.ptr 4 0,.lsv 0 3 l.length 0 l.length,.int .i64 l.length,.int .i64 u.1])
  (fun u=> [.lst (l.map Ln.row) 3,.box T.row,.box e.row,.box zeroV.row,.box u.2.row]) (fun u=>l.length - u.1)
  (fun u=>u.1<=l.length/\okI u.2.n/\u.2.s= []/\sumF T e (l.drop u.1) u.2=M) hc hb (0,zeroV) ⟨A3 _,by decide,rfl,hM⟩ ?_ ?_
 .exact at_n 5 (by simp[go_sem,zeroV,GExpr.row_eq]) rfl (by simp[ltOb,ltC,ltK,GExpr.row_eq,GTable.row,GValue.row,Ln.row]) (by decide) (zG (by simp[go_sem]) rfl)
 rintro⟨i,acc⟩ ⟨hi,ha,has,hinv⟩
 simp only at hi ha has hinv
 by_cases q:i<l.length
 rotate_left
 .rw[A9 (by omega)]at hinv
  refine zA ?_
  simp[go_sem,q]
  exact ret acc 0 _ hinv rfl
 have ei:=zV q (by omega)
 obtain⟨x,hx⟩:=eX (l[i])
 have hxm:x∈l:=hx▸A8 q
 rw[A6 q,hx,xI3]at hinv
 have hcall:=ys9 T hT x.v (hok x hxm) e he
 have hvo:=xp4 (hok x hxm) (T:=T) he
 obtain⟨⟨v,er⟩,hv⟩: ∃kv,evR T x.v e=kv:=⟨_,rfl⟩
 rw[hv]at hinv hcall hvo
 simp only at hinv hvo
 refine zA ?_
 simp[go_sem,q,hx]
 refine zD hcall cB ⟨zC rfl,zX,zN2 e,trivial⟩ rfl ?_
 simp[go_sem,valP]
 by_cases q2:er=0
 rotate_left
 .have q2':(er !=0)=true:=by simpa using q2
  rw[if_pos q2]at hinv
  simp[go_sem,q2']
  exact ret zeroV er _ hinv rfl
 have q2':(er !=0)=false:=by simpa using q2
 rw[if_neg (fun h=>h q2)]at hinv
 have hvk:=hvo q2
 simp[go_sem,q2']
 by_cases k0:v.kind=0
 .have k0':(v.kind==0)=true:=by simpa using k0
  rw[if_pos k0]at hinv
  simp[go_sem,k0',ei]
  exact zI (i+1,acc) ⟨by show l.length - (i+1)<l.length - i;omega,⟨q,ha,has,hinv⟩,at_n 5 (by simp[go_sem,zeroV,GExpr.row_eq]) rfl (by simp[ltOb,ltC,ltK,GExpr.row_eq,Ln.row]) (by decide) (zG (by simp[go_sem]) rfl)⟩
 have k0':(v.kind==0)=false:=by simpa using k0
 rw[if_neg k0]at hinv
 have hadd:=zR4 acc.n v.n ha hvk.n
 have hro:=yx7 (acc.n+v.n)
 obtain⟨⟨sn,se⟩,hs⟩: ∃s,rngF (acc.n+v.n)=s:=⟨_,rfl⟩
 rw[hs]at hinv hadd hro
 simp only at hinv hro
 simp[go_sem,k0']
 refine zD hadd cB ⟨zC rfl,zC rfl,trivial⟩ rfl ?_
 simp[go_sem,wA]
 by_cases q3:se=0
 rotate_left
 .have q3':(se !=0)=true:=by simpa using q3
  rw[if_pos q3]at hinv
  simp[go_sem,q3']
  exact ret zeroV se _ hinv rfl
 have q3':(se !=0)=false:=by simpa using q3
 rw[if_neg (fun h=>h q3)]at hinv
 simp[go_sem,q3',ei]
 exact zI (i+1,⟨2,sn,[]⟩) ⟨by show l.length - (i+1)<l.length - i;omega,⟨q,hro,rfl,hinv⟩,at_n 5 (by simp[go_sem,zeroV,GExpr.row_eq,has]) rfl (by simp[ltOb,ltC,ltK,GExpr.row_eq,Ln.row]) (by decide) (zG (by simp[go_sem]) rfl)⟩
def oneV (r:List GValue×Int):V:=if r.2=0 then .tup [.agg (Ot.row ⟨0,[r.1]⟩),.int .i64 0]else .tup [.agg (Ot.row ⟨0,[]⟩),.int .i64 r.2]
theorem xW0 (T:GTable) (hT:T.cols.length<=maxLen) (st:GStmt) (hst:SOk st) (l:List Ln) (hl:l.length<=10000) (hok: ∀x∈l,∀v∈x.v,v.ok):VCalls prog 74 [.agg T.row,.agg st.row,.lsv 0 3 l.length 0 l.length] [.lst (l.map Ln.row) 3] (fun r s=>r=oneV (zH3 T l st.items [])/\s= [.lst (l.map Ln.row) 3]):=by
 generalize hM:zH3 T l st.items []=M
 obtain⟨R,hR⟩:=eX st.items
 obtain⟨hRl,hRx⟩:=hst.items
 rw[hR]at hRl hRx hM
 have bad: ∀(er:Int) (σ:St),([],er)=M->er≠0->σ.take 1= [.lst (l.map Ln.row) 3]->wret (some (.tup [.agg [.sl .full [],.int .i64 0],.int .i64 er])) 1 (fun r s=>r=oneV M/\s= [.lst (l.map Ln.row) 3]) σ:=by
  rintro er σ rfl h0 h
  refine xJ 1 (r:= .tup [.agg (Ot.row ⟨0,[]⟩),.int .i64 er]) h rfl (by simp[ltOb,ltC,ltK,Ln.row]) (A2 _) (xT ⟨zc5 ⟨yX,zZ rfl,trivial⟩,za6 rfl,trivial⟩) ⟨?_,rfl⟩
  unfold oneV
  rw[if_neg h0]
 have good: ∀(acc:List GValue) (σ:St),(acc,0)=M->σ.take 1= [.lst (l.map Ln.row) 3]->wret (some (.tup [.agg [.sl .full [[.sl .ro (acc.map GValue.row)]],.int .i64 0],.int .i64 0])) 1 (fun r s=>r=oneV M/\s= [.lst (l.map Ln.row) 3]) σ:=by
  rintro acc σ rfl h
  exact xJ 1 (r:= .tup [.agg (Ot.row ⟨0,[acc]⟩),.int .i64 0]) h rfl (by simp[ltOb,ltC,ltK,Ln.row]) (A2 _) (xT ⟨zc5 ⟨yX,zZ rfl,trivial⟩,za6 rfl,trivial⟩) ⟨rfl,rfl⟩
 refine iV 1 func74 ntmps74 results74 fun c hc hb=> ?_
 refine zA ?_
 simp[go_sem,hR]
 refine zn1 8 3 (by decide) (by simp[go_sem]) ?_
 refine zL (S:=Nat×List GValue) [2,3,4,6,7,8,15,16,17] (fun u=> [.lsv 0 3 l.length 0 l.length,.ptr 1 0,.ptr 2 0,.ptr 3 0,.int .i64 0,.sl (.app 4) (u.2.map GValue.row),.sl .ro (R.map GItem.row),.int .i64 R.length,.int .i64 u.1])
  (fun u=> [.lst (l.map Ln.row) 3,.box T.row,.box st.row,.box [.sl .full [],.int .i64 0],.app u.2.length 3]) (fun u=>R.length - u.1)
  (fun u=>u.1<=R.length/\u.2.length<=u.1/\zH3 T l (R.drop u.1) u.2=M) hc hb (0,[]) ⟨A3 _,A2 _,hM⟩ ?_ ?_
 .exact at_n 5 (by simp[go_sem,hR]) rfl (by simp[ltOb,ltC,ltK,GTable.row,GStmt.row,Ln.row]) (by decide) (zG (by simp[go_sem]) rfl)
 rintro⟨i,acc⟩ ⟨hi,ha,hinv⟩
 simp only at hi ha hinv
 by_cases q:i<R.length
 rotate_left
 .rw[A9 (by omega)]at hinv
  refine zA ?_
  simp[go_sem,q]
  exact good acc _ hinv rfl
 have ei:=zV q (by omega)
 obtain⟨x,hx⟩:=eX (R[i])
 have hxe:=(hRx x (hx▸A8 q)).2
 rw[A6 q,hx,zH3]at hinv
 refine zA ?_
 simp[go_sem,q,hx]
 by_cases k4:x.kind=4
 rotate_left
 .have k4':(x.kind==4)=false:=by simpa using k4
  rw[if_neg k4]at hinv
  simp[go_sem,k4']
  refine zJ ⟨by omega,yC rfl⟩ ?_
  simp[go_sem,ei]
  exact zI (i+1,acc++ [⟨2,l.length,[]⟩]) ⟨by show R.length - (i+1)<R.length - i;omega,⟨q,by show(acc++ [_]).length<=i+1;simp;omega,hinv⟩,aN 5 (by simp[ltOb,ltC,ltK,Ln.row])⟩
 have k4':(x.kind==4)=true:=by simpa using k4
 rw[if_pos k4]at hinv
 simp[go_sem,k4']
 have hcall:=xI8 T hT x.e hxe l hl hok
 obtain⟨⟨v,er⟩,hv⟩: ∃kv,sumF T x.e l zeroV=kv:=⟨_,rfl⟩
 rw[hv]at hinv hcall
 simp only at hinv
 refine zl2 0 hcall cB rfl (by simp[ltOb,ltC,ltK,Ln.row]) ⟨zC rfl,zN2 x.e,.inl rfl,trivial⟩ (by rintro r s ⟨rfl,rfl⟩;exact⟨_,rfl,by simp[ltOb,ltC,ltK,Ln.row]⟩) ?_
 rintro r o ⟨rfl,ho⟩
 cases ho
 simp[go_sem,valP]
 by_cases q2:er=0
 rotate_left
 .have q2':(er !=0)=true:=by simpa using q2
  rw[if_pos q2]at hinv
  simp[go_sem,q2']
  exact bad er _ hinv q2 rfl
 have q2':(er !=0)=false:=by simpa using q2
 rw[if_neg (fun h=>h q2)]at hinv
 simp[go_sem,q2']
 refine zJ ⟨by omega,yC rfl⟩ ?_
 simp[go_sem,ei]
 exact zI (i+1,acc++ [v]) ⟨by show R.length - (i+1)<R.length - i;omega,⟨q,by show(acc++ [_]).length<=i+1;simp;omega,hinv⟩,aN 5 (by simp[ltOb,ltC,ltK,Ln.row])⟩
theorem yT3 (y:GItem):Pure prog 124 [.agg y.row] (.bool (y.kind==3||y.kind==4)):=by
 refine iV 0 func124 ntmps124 results124 fun c hc hb=> ?_
 refine zA ?_
 by_cases k:y.kind=3
 .have k':(y.kind==3)=true:=by simpa using k
  simp[go_sem,k']
  exact zQ (zC rfl) ⟨rfl,rfl⟩
 .have k':(y.kind==3)=false:=by simpa using k
  simp[go_sem,k']
  exact zQ (zC rfl) ⟨rfl,rfl⟩
theorem xP7 (l:List GItem) (hl:l.length<=12):Pure prog 187 [.sl .ro (l.map GItem.row),.fn 124 []] (.int .i64 (zb5 (fun y=>y.kind==3||y.kind==4) l 0)):=by
 generalize hM:zb5 (fun y:GItem=>y.kind==3||y.kind==4) l 0=M
 have ret: ∀(r:Int) (σ:St),r=M->wret (some (.int .i64 r)) 0 (fun r s=>r= .int .i64 M/\s= []) σ:=fun r σ h=>by subst h;exact zQ (zC rfl) ⟨rfl,rfl⟩
 refine iV 0 func187 ntmps187 results187 fun c hc hb=> ?_
 refine zA ?_
 simp[go_sem]
 refine zL (S:=Nat) [0,1,6,7,8] (fun i=> [.sl .ro (l.map GItem.row),.fn 124 [],.sl .ro (l.map GItem.row),.int .i64 l.length,.int .i64 (i:Int)]) (fun _=> []) (fun i=>l.length - i)
  (fun i=>i<=l.length/\zb5 (fun y=>y.kind==3||y.kind==4) (l.drop i) i=M) hc hb 0 ⟨A3 _,hM⟩ ?_ ?_
 .exact aN 0 (by simp)
 rintro i ⟨hi,hinv⟩
 by_cases q:i<l.length
 rotate_left
 .rw[A9 (by omega)]at hinv
  refine zA ?_
  simp[go_sem,q]
  exact ret _ _ hinv
 have ei:=zV q (by omega)
 obtain⟨y,hy⟩:=eX (l[i])
 rw[A6 q,hy,zb5]at hinv
 have hcall:=yT3 y
 generalize (y.kind==3||y.kind==4)=b at hcall hinv
 refine zA ?_
 simp[go_sem,q,hy]
 refine zD hcall cB ⟨zC rfl,trivial⟩ rfl ?_
 refine(A7 b).elim (fun p=> ?_) (fun p=> ?_)
 .rw[if_pos p]at hinv
  simp[go_sem,p]
  exact ret _ _ hinv
 .rw[if_neg (by rw[p];decide)]at hinv
  simp[go_sem,p,ei]
  exact zI (i+1) ⟨by omega,⟨by omega,hinv⟩,aN 0 (by simp)⟩
theorem xP1 (l:List GItem) (hl:l.length<=12):Pure prog 123 [.sl .ro (l.map GItem.row),.fn 124 []] (.bool (zD9 l)):=by
 have h:=xP7 l hl
 have hg:=zz5 (fun y:GItem=>y.kind==3||y.kind==4) l 0
 unfold zD9
 rw[<-hg]
 generalize zb5 (fun y:GItem=>y.kind==3||y.kind==4) l 0=n at h⊢
 refine iW 0 func123 ntmps123 results123 fun c hc hb=>zN ?_
 simp[go_sem]
 refine zD h cB ⟨zC rfl,zC rfl,trivial⟩ rfl ?_
 simp[go_sem]
 exact zQ (zC rfl) ⟨rfl,rfl⟩
theorem xK0 (st:GStmt) (hst:SOk st):Pure prog 73 [.agg st.row] (.bool (zD9 st.items)):=by
 have h:=xP1 st.items hst.items.1
 generalize zD9 st.items=b at h⊢
 refine iW 0 func73 ntmps73 results73 fun c hc hb=>zN ?_
 simp[go_sem]
 refine zD h cB ⟨zC rfl,zC rfl,trivial⟩ rfl ?_
 simp[go_sem]
 exact zQ (zC rfl) ⟨rfl,rfl⟩
theorem zK4 {α:Type} {p:Pl}: ∀{W:List (Pl×α)},(∀e∈W,e.1≠p)->W.filter (fun e=> !decide (e.1=p))=W:=fun{W} h=>
 Dt.2 fun e he=>by simp[h e he]
theorem zN7 {α:Type} {p:Pl} {v:α}: ∀{W:List (Pl×α)} {i:Nat},(W.map (·.1)).Nodup->W[i]? =some (p,v)->W.eraseIdx i=W.filter (fun e=> !decide (e.1=p))
 | [],i,_,h=>by simp at h
 |e::W,0,hn,h=>by
  simp only[List.getElem?_cons_zero,Option.some.injEq]at h
  subst h
  rw[Al,C1]at hn
  rw[List.eraseIdx_cons_zero,Do,if_neg (by simp)]
  exact(zK4 fun e he q=>hn.1 (Ac.2 ⟨e,he,q⟩)).symm
 |e::W,i+1,hn,h=>by
  rw[Cn]at h
  rw[Al,C1]at hn
  have hne:e.1≠p:=fun q=>hn.1 (Ac.2 ⟨(p,v),B1 h,q.symm⟩)
  rw[List.eraseIdx_cons_succ,Do,if_pos (by simp[hne]),zN7 hn.2 h]
theorem xV1 {b:Mp (List UInt8)} (hn:(b.W.map (·.1)).Nodup) (p:Pl):(b.del p).W=b.W.filter (fun e=> !decide (e.1=p)):=by
 unfold Mp.del
 cases h:b.at p with
 |none=>exact(zK4 (zJ0 h)).symm
 |some q=>exact zN7 hn (zi1 (i:=q.1) (v:=q.2) h)
theorem xa7 {α:Type} {p:Pl} {u v:α}: ∀{W:List (Pl×α)} {i:Nat},(W.map (·.1)).Nodup->W[i]? =some (p,u)->W.set i (p,v)=W.map (fun e=>if e.1=p then(p,v)else e)
 | [],i,_,h=>by simp at h
 |e::W,0,hn,h=>by
  simp only[List.getElem?_cons_zero,Option.some.injEq]at h
  subst h
  rw[Al,C1]at hn
  rw[D9,Al,if_pos rfl]
  congr 1
  refine(List.map_id _).symm.trans (Bm fun e he=> ?_)
  rw[if_neg fun q=>hn.1 (Ac.2 ⟨e,he,q⟩)];rfl
 |e::W,i+1,hn,h=>by
  rw[Cn]at h
  rw[Al,C1]at hn
  have hne:e.1≠p:=fun q=>hn.1 (Ac.2 ⟨(p,u),B1 h,q.symm⟩)
  rw[C6,Al,if_neg hne,xa7 hn.2 h]
theorem NowOk.keys {b:Mp (List UInt8)} {l:List Ln} (h:NowOk b l):(b.W.map (·.1)).Nodup:=by
 have h1:=h.perm.map (·.1)
 rw[Bq]at h1
 exact h1.nodup_iff.2 h.rise.nodup
theorem NowOk.del {b:Mp (List UInt8)} {l:List Ln} (h:NowOk b l) (p:Pl):NowOk (b.del p) (l.filter fun y=> !decide (y.at=p)):=by
 refine⟨Mp.del_ok h.ok _, ?_, ?_,fun y hy=>h.rows y (B9.1 hy).1⟩
 .exact List.Pairwise.sublist ((C0).map _) h.rise
 .rw[xV1 h.keys]
  have h1:=h.perm.filter (fun e=> !decide (e.1=p))
  rw[List.filter_map]at h1
  exact h1
theorem NowOk.turn {b:Mp (List UInt8)} {l:List Ln} (h:NowOk b l) (p:Pl) (row:List GValue) (hp:atF l p=true) (hrow:LnOk ⟨p.1,p.2,row⟩):NowOk (b.put p (yL row)) (putF l p row):=by
 have hat:(putF l p row).map Ln.at=l.map Ln.at:=by
  unfold putF
  rw[Bq]
  refine Bm fun y _=> ?_
  by_cases q:y.at=p
  .simp only[Function.comp,if_pos q];rfl
  .simp only[Function.comp,if_neg q]
 refine⟨Mp.put_ok h.ok _ _, ?_, ?_,fun y hy=> ?_⟩
 .rw[hat];exact h.rise
 .have e:(b.put p (yL row)).W=b.W.map (fun e=>if e.1=p then(p,yL row)else e):=by
   unfold Mp.put
   cases r:b.at p with
   |none=>rw[h.at_none.1 r]at hp;cases hp
   |some q=>exact xa7 h.keys (zi1 (i:=q.1) (v:=q.2) r)
  rw[e]
  have h1:=h.perm.map (fun e=>if e.1=p then(p,yL row)else e)
  rw[Bq]at h1
  refine h1.trans (List.Perm.of_eq ?_)
  unfold putF
  rw[Bq]
  refine Bm fun y _=> ?_
  by_cases q:y.at=p
  .simp only[Function.comp,if_pos q]
   show _=((y.r,y.k),yL row)
   rw[<-q];rfl
  .simp only[Function.comp,if_neg q]
 .unfold putF at hy
  obtain⟨z,hz,rfl⟩:=Ac.1 hy
  by_cases q:z.at=p
  .rw[if_pos q]
   subst q
   exact hrow
  .rw[if_neg q];exact h.rows z hz
end Go.Proofs.YtkigddpaonhmlaaGreat
