/-
  The law's begun and same: both sides are asked alike, and they answer alike; used by the theorems at the end of the Exec claims.
  Conditions: as each theorem states them.
-/
import Derived.Test.YtefbicjgbaaieaaGreatJAQ
import Derived.Test.YtefbicjgbaaieaaGreatJAN
import Derived.Test.YtefbicjgbaaieaaGreatJAH
import Derived.Test.YtefbicjgbaaieaaGreatJAM
import Derived.Test.YtefbicjgbaaieaaGreatJAO
set_option maxHeartbeats 8000000
namespace Go.Proofs.YtefbicjgbaaieaaGreat
open Go Go.Vx R Go.Proofs.Tryz
set_option maxRecDepth 100000
variable {b:Mp (List UInt8)}{a:Mp (List UInt8)}{sn:Mp Int}{σ:St}{l:List Ln}{w:Wr}{tn:Nat}{st:GStmt}{T:GTable}{p:Pl}{lot:GLot}{P:Program}{c:Ctx}{x:Ln}{k:Nat}{n:Nat}{n0:Kp}{d:List UInt8}{f:FuncId}{caps:List V}{args':List V}{KV:V->St->Prop}{m:List Ln}{r:Int}{C:List Wr}{i:Nat}
@[go_sem] theorem wtop_delete {nt:Nat} {d:Option Tmp} {K:KT} {e:Env} {x k:Operand} {t1 t2:TypeId}:wtop P c nt n0 4 d (.call ⟨.builtin .delete, #[x,k], #[t1,t2]⟩) K fx fx e σ=wop P c nt d (.call ⟨.builtin .delete, #[x,k], #[t1,t2]⟩) K fx fx e σ:=zY0 sM sM sM
theorem xG9 (k:Nat) {args:List V} {σin:St} {R:V->St->Prop} (hc:VCalls P f args' σin R) (hb:wL P f=true) (hk:σ.take k=σin) (hl:σin.length=k) (hok:σin.all (ltOb k)=true)
  (aa:All2 (argS (ren (List.range k) σ.length)) args' (args++caps)) (hR: ∀r s,R r s-> ∃s0 ex,s=s0++ex/\s0.length=k/\s0.all (ltOb k)=true/\ex.all (ltOb 0)=true)
  (hK: ∀r s0 ex,R r (s0++ex)->s0.length=k->KV (renS (ren (List.range k) σ.length) r) (s0++σ.drop k++ex)):wVC P c (.fn f caps) args σ KV fx:=by
 have ab:k<=σ.length:=by grind
 refine VC.of hc hb (List.range k) Br (by grind) (fun i j o h1 h2=> ?_) aa fun r s h _=> ?_
 .obtain⟨h3,h4⟩:=A6.1 h1
  simp at h3 h4
  subst h4
  have ho:ltOb k o=true:=by
   grind
  rw[wO (n:=k) (by grind[ze8]) ho]
  grind
 .obtain⟨s0,ex,rfl,h1,h2,h3⟩:=hR r s h
  have e:xX (List.range k) σ (s0++ex)=s0++σ.drop k++ex:=by
   have e0:=ya0 ab h1 h2
   have ed:(s0++ex).drop (List.range k).length=ex:=by grind
   have et:(s0++ex).take (List.range k).length=s0.take (List.range k).length:=by grind
   have e2:(s0.drop (List.range k).length).map (yS (ren (List.range k) σ.length))= []:=by
    grind
   have e3:ex.map (yS (ren (List.range k) σ.length))=ex:=wD (fun o h=>wO (n:=0) om h) h3
   unfold xX at e0⊢
   grind
  grind
theorem wc5 (i:Nat) {o o2:Ob} {args:List V} {v:V} (hc:VCalls P f args' [o] (fun r s=>r=v/\s= [o2])) (hb:wL P f=true) (ho:σ[i]? =some o) (hok:ltOb 0 o=true) (ab:ltOb 0 o2=true)
  (aa:All2 (argS (ren [i] σ.length)) args' (args++caps)) (hK:KV (renS (ren [i] σ.length) v) (σ.set i o2)):wVD P c n0 4 (.fn f caps) args σ KV fx:=by
 refine xH2 hc hb [i] sM rfl (fun a j x h1 h2=> ?_) aa ?_
 .have e:a=0:=by
   grind
  subst e
  have e1:x=o:=by grind
  have e2:j=i:=by grind
  subst e1;subst e2
  rw[wO (n:=0) om hok]
  exact ho
 .have e:xX [i] σ [o2]=σ.set i o2:=by
   simp only[xX,Bf,Cm,List.take_zero,D0,B1,Ai,Bm,mset,B9]
   rw[wO (n:=0) om ab]
  grind
theorem xQ3: ∀n,4<=n->(runS a b sn++([.lst (m.map Ln.row) 3]:St)).all (ltOb n)=true:=fun n h=>by
 rw[E8,xS n om a b sn]
 simp[ltOb,ltC,ltK,Ln.row]
structure StOk (st:GStmt):Prop where
 ok:SOk st
 vok:VOk st
 tab:0<=zc6 st.table
 items:st.kind=1->st.items≠ []
 sets:st.kind=3-> ∀x∈st.sets,0<=colF (tabsS.getD (zc6 st.table).toNat noT) x.name
theorem yn3 {tn:Nat} {T:GTable} (hT:tabsS[tn]? =some T) {st:GStmt} (ab:SOk st): ∀{m:List Ln} {b:Mp (List UInt8)} {l:List Ln},NowOk b l->(∀x∈m,atF l x.at=true/\LnOk x/\(ofS x.r).1=(tn:Int))->(updF T st.sets m l).2=0->NowOk (updB T st.sets m b) (updF T st.sets m l).1
 | [],_,_,hn,_,_=>hn
 |x::m,b,l,hn,hm,h0=>by
  obtain⟨ad,aa,ae⟩:=hm x sM
  rw[updF]at h0⊢
  rw[updB]
  obtain⟨E,hE⟩:=eX (setF T x.v st.sets x.v)
  rw[hE]at h0⊢
  by_cases q:E.2=0
  rotate_left
  .grind
  rw[if_neg om]at h0
  rw[if_neg om,if_neg (show ¬E.2≠0 from fun h=>h q)]
  by_cases q2:mayT T.cols E.1=0
  rotate_left
  .grind
  rw[if_neg om]at h0
  rw[if_neg om,if_neg om]
  have af: ∀v∈E.1,v.ok:=by
   have h1:=yd4 (T:=T) aa.ok (sets:=st.sets) (row:=x.v) (fun y hy=>(ab.sets.2 y hy).2) aa.ok
   grind
  refine yn3 hT ab (hn.turn x.at E.1 ad ⟨⟨tn,T,ae,hT,q2⟩,aa.err,af⟩) (fun y hy=> ?_) h0
  grind[yF6]
def updV (n:Nat) (e:Int):V:= .tup [.agg (Ot.row (if e≠0 then⟨0,[]⟩else⟨n,[]⟩)),.int .i64 e]
theorem zK7 (h3:tn<3) (h:zm5 tn st x=true):(ofS x.r).1=(tn:Int):=by
 unfold zm5 at h
 rw[A1,E6]at h
 grind[xg3]
theorem xQ9 (hT:tabsS[tn]? =some T) (hx:LnOk x) (aa:(ofS x.r).1=(tn:Int)):x.v.length=T.cols.length:=by
 obtain⟨ab,T',h1,h2,h3⟩:=hx.tab
 grind[zk6]
theorem yn9 {T:GTable} {st:GStmt}: ∀{l acc:List Ln},(zo6 T st acc l).1.length<=acc.length+l.length
 | [],_=>A4 _
 |x::l,acc=>by
  rw[zo6]
  split
  .simp
  .refine B3 yn9 ?_
   split<;>simp<;>omega
theorem xA5 {t:Int}:(metF t T st l).1.length<=l.length:=by
 grind[metF,yn9]
theorem xM4 {N:Nat} (h4:σ.take 4=runS a b sn) (hσ:σ[k]? =some (.lst (m.map Ln.row) 3)) (i j:Nat) (o:Ob) (ab: [0,1,2,3,k][i]? =some j) (ho:(runS a b sn++([.lst (m.map Ln.row) 3]:St))[i]? =some o):σ[j]? =some (yS (ren [0,1,2,3,k] N) o):=by
 by_cases q:i<4
 .have e:j=i:=by
   match i,q with
   |0,_=>grind
   |1,_=>grind
   |2,_=>grind
   |3,_=>grind
  subst e
  have h1:(runS a b sn)[j]? =some o:=by rw[Az (by exact q)]at ho;exact ho
  have aa:ltOb 4 o=true:=Aj.1 (by grind[xS]) o (B7 h1)
  rw[wO (n:=4) (fun x hx=> ?_) aa]
  .grind
  .rw[wT (by grind)]
   match x,hx with
   |0,_=>rfl
   |1,_=>rfl
   |2,_=>rfl
   |3,_=>rfl
 .have e:i=4:=by
   grind
  subst e
  have e1:o= .lst (m.map Ln.row) 3:=by grind
  have e2:j=k:=by grind
  subst e1;subst e2
  rw[wO (n:=0) om (by grind[ltOb,ltC,ltK,Ln.row])]
  omega
theorem xn8 {o0 o1 o2 o3 o4 o5 o6:Ob}:xX [0,1,2,3,6] [o0,o1,o2,o3,o4,o5,o6] (runS a b sn++([.lst (m.map Ln.row) 3]:St))= [a.ob .str,b.ob .str,sn.ob (V.int .i64),runB,o4,o5,.lst (m.map Ln.row) 3]:=by
 have e:(runS a b sn++([.lst (m.map Ln.row) 3]:St)).map (yS (ren [0,1,2,3,6] 7))=runS a b sn++([.lst (m.map Ln.row) 3]:St):=
  wD (fun o h=>wO (n:=4) dc h) (by grind[xQ3])
 unfold xX
 rw[Ap (by simp[runS]),C3 (by simp[runS])]
 show mset _ _ (List.map (yS (ren [0,1,2,3,6] 7)) _)++_=_
 rw[e]
 rfl
def xF4 (a:Mp (List UInt8)) (sn:Mp Int) (D:Ot×List Ln×Int) (r:V) (s:St):Prop:=
 ∃b',s=runS a b' sn/\r= .tup [.agg D.1.row,.int .i64 D.2.2]/\(D.2.2=0->NowOk b' D.2.1)
theorem xu7 {w:Nat×List UInt8} (h:b.at p=some w):Ob.mp ((kvE V.str b.W).take (2*w.1)++(kvE V.str b.W).drop (2*w.1+2)) (b.bs.eraseIdx w.1) b.clk=(b.del p).ob V.str:=by
 show Ob.mp (zY8 (kvE V.str b.W) w.1) _ _=_
 unfold Mp.del Mp.ob
 rw[h]
 have:=(A6.1 (zj1 (W:=b.W) (i:=w.1) (v:=w.2) h)).1
 grind[xz8]
theorem xu9 (h:b.at p=none):b.del p=b:=by
 grind[Mp.del]
theorem zx2 {D:Ot×List Ln×Int} {σl:St} {g:Tag} (o:Ot) (e:Int) (h1:D.1=o) (h2:D.2.2=e) (h3:e=0->NowOk b D.2.1):
  wret (some (.tup [.agg [.sl g (o.rows.map fun r=> [.sl .ro (r.map GValue.row)]),.int .i64 o.count],.int .i64 e])) 4 (xF4 a sn D) (a.ob .str::b.ob .str::sn.ob (V.int .i64):: .box [.sl .ro wF,.sl .ro (tabsS.map GTable.row),.mp 0,.mp 1,.mp 2]::σl):=
 xM 4 (s:=runS a b sn) (r:= .tup [.agg (Ot.row o),.int .i64 e]) rfl rfl (by grind[xS]) om (xU ⟨zd0 ⟨yX,zU rfl,tV⟩,za1 rfl,tV⟩) ⟨b,rfl,by grind,(by grind)⟩
theorem xp8 (st:GStmt) (ad:StOk st) (a b:Mp (List UInt8)) (sn:Mp Int) (l:List Ln) (ab:NowOk b l) (hl:l.length<=10000):
  VCalls prog 42 [.ptr 3 0,.agg st.row] (runS a b sn) (xF4 a sn (doS st l)):=by
 obtain⟨tn,az⟩: ∃tn:Nat,zc6 st.table=tn:=⟨(zc6 st.table).toNat,by have:=ad.tab;omega⟩
 have aD:tn<3:=by
  have h:=zr2 (fun T:GTable=>T.name==st.table) tabsS 0
  have h2:tabsS.length=3:=rfl
  grind[zc6]
 obtain⟨T,hT⟩: ∃T,tabsS[tn]? =some T:=⟨_,A0 (show tn<tabsS.length from aD)⟩
 obtain⟨a1,a6⟩:=A6.1 hT
 have aE:tabsS.getD (zc6 st.table).toNat noT=T:=by grind
 have ae:=ad.sets
 rw[aE]at ae
 have af:=xr8 tabsS st.table dc
 have aF:zf5 (fun t:GTable=>t.name==st.table) tabsS 0=tn:=az
 rw[aF]at af
 have ag:=yO0 tn T hT st ad.ok a b sn l ab
 have ah:=wf3 tn T hT st ad.ok ad.vok a b sn l ab hl
 obtain⟨D,hD⟩:=eX (doS st l)
 rw[hD]
 have aa:=hD
 unfold doS at aa
 simp only[az,As]at aa
 rw[show tabsS.getD tn noT=T by grind]at aa
 refine iV 4 func42 ntmps42 results42 fun c hc hb=> ?_
 refine zP (zA ?_)
 simp[go_sem,runS,runB]
 refine zP (zA ?_)
 simp[go_sem]
 refine xA [(6,0)] 6 rfl (by rfl) kR ?_
 simp[go_sem]
 refine pD af ?_
 simp[go_sem]
 have ai:=fun b':Mp (List UInt8)=>xS 4 dc a b' sn
 by_cases k2:st.kind=2
 .rw[if_pos k2]at aa
  have ao:(st.kind==2)=true:=by grind
  obtain⟨I,hI⟩:=eX (insF tn T st.rows l)
  rw[hI]at aa ag
  refine zA ?_
  simp[go_sem,ao]
  refine za4 4 ag cB rfl rfl (ai b) (wB (n:=4) rfl) (fun r s h=> ?_) (fun r s h=> ?_)
  .obtain⟨b',rfl,h⟩:=h
   refine⟨rfl,ai b', ?_⟩
   rcases h with ⟨_,rfl⟩|⟨_,rfl,_⟩
   all_goals rfl
  .obtain⟨b',rfl,h⟩:=h
   rcases h with ⟨h0,rfl⟩|⟨h0,rfl,hn⟩
   .rw[if_pos h0]at aa
    simp[go_sem,runS,runB,Ot.row]
    exact zx2 ⟨0,[]⟩ I.2 (by grind) (by grind) om
   .rw[if_neg om]at aa
    simp[go_sem,runS,runB,Ot.row]
    exact zx2 ⟨st.rows.length,[]⟩ 0 (by grind) (by grind) (by grind)
 have ao:(st.kind==2)=false:=by grind
 rw[if_neg k2]at aa
 clear ag
 obtain⟨⟨m,me⟩,hM⟩: ∃M,metF tn T st l=M:=⟨_,rfl⟩
 rw[hM]at aa ah
 simp only at aa
 refine zP (zA ?_)
 simp[go_sem,ao]
 refine zP (zA ?_)
 simp[go_sem]
 refine xG9 4 ah cB rfl rfl (ai b) (wB (n:=4) rfl) (fun r s h=> ?_) (fun r s0 ex h h4=> ?_)
 .rcases h with ⟨_,rfl,_⟩|⟨_,rfl,_⟩
  .exact⟨_,[],(by rfl),rfl,ai b,rfl⟩
  .exact⟨_,_,rfl,rfl,ai b,by simp[ltOb,ltC,ltK,Ln.row]⟩
 rcases h with ⟨m0,hs,rfl⟩|⟨m0,hs,rfl⟩
 .have aq:=List.append_inj (hs.trans (B9 _).symm) (by simpa)
  obtain⟨rfl,rfl⟩:=aq
  have m0:me≠0:=m0
  have aG:(me !=0)=true:=by grind
  rw[if_pos m0]at aa
  simp[go_sem,runS,runB]
  refine zP (zA ?_)
  simp[go_sem,aG]
  exact zx2 ⟨0,[]⟩ me (by grind) (by grind) om
 .have aq:=List.append_inj hs (by simpa)
  obtain⟨rfl,rfl⟩:=aq
  have m0:me=0:=m0
  rw[if_neg om]at aa
  subst m0
  have er:ren [0,1,2,3] 6 4=6:=rfl
  have a7:m.length<=10000:=by grind[xA5]
  have ak: ∀x∈m,x∈l/\(zm5 tn st x)=true:=(by grind[zS1])
  simp[go_sem,runS,runB,er]
  refine zP (zA ?_)
  simp[go_sem]
  refine zP (zP (zA ?_))
  simp[go_sem]
  refine zh3 (zP (zA ?_))
  simp[go_sem]
  by_cases k1:st.kind=1
  .have ar:(st.kind==1)=true:=by grind
   rw[if_pos k1]at aa
   have au:=yy7 tn T hT st ad.ok (ad.items k1) m a7 (fun x hx=>⟨ab.rows x (ak x hx).1,xQ9 hT (ab.rows x (ak x hx).1) (by grind[zK7])⟩)
   obtain⟨M,aH⟩:=eX (selF T st m)
   rw[aH]at au aa
   obtain⟨C,hC⟩:=eX (chL T st m)
   rw[hC]at au
   refine zA ?_
   simp[go_sem,ar]
   refine zc2 [(10,4)] 6 sM (by rfl) kR ?_
   simp[go_sem,a1,a6]
   refine wc5 6 au cB rfl (by grind[ltOb,ltC,ltK,Ln.row]) (by grind[ltOb,ltC,ltK,Ln.row]) ⟨zC rfl,zC rfl,.inl rfl,tV⟩ ?_
   simp[go_sem,selV,Ot.row]
   exact zx2 M.1 M.2 (by grind) (by grind) (by grind)
  have ar:(st.kind==1)=false:=by grind
  rw[if_neg k1]at aa
  refine zA ?_
  simp[go_sem,ar]
  by_cases k3:st.kind=3
  .have av:(st.kind==3)=true:=by grind
   rw[if_pos k3]at aa
   have a8: ∀x∈m,atF l x.at=true/\LnOk x/\(ofS x.r).1=(tn:Int):=fun x hx=>⟨atF_iff.2 (by grind),ab.rows x (ak x hx).1,(by grind[zK7])⟩
   have aw:=xG7 tn T hT st ad.ok (ae k3) a b sn l m ab a8 a7
   have aI:=yn3 hT ad.ok ab a8
   obtain⟨U,hU⟩:=eX (updF T st.sets m l)
   obtain⟨B,hB⟩:=eX (updB T st.sets m b)
   rw[hU,hB]at aw aI
   rw[hU]at aa
   have aA:=aw.mono (R':=fun r s=>r=updV m.length U.2/\s=runS a B sn++ [.lst (m.map Ln.row) 3]) (fun r s h=>by
    obtain⟨h1,h2⟩:=h
    refine⟨?_,h1⟩
    unfold updV
    grind)
   clear aw
   simp[go_sem,av]
   refine zc2 [(11,4)] 5 sM (by rfl) kR ?_
   simp[go_sem,a1,a6]
   refine xH2 aA cB [0,1,2,3,6] dc rfl (xM4 rfl rfl) ⟨.inl rfl,zC rfl,zC rfl,.inl rfl,tV⟩ ?_
   rw[xn8]
   by_cases u0:U.2=0
   .rw[if_neg om]at aa
    simp[go_sem,updV,Ot.row,u0]
    exact zx2 ⟨m.length,[]⟩ 0 (by grind) (by grind) (by grind)
   .rw[if_pos u0]at aa
    simp[go_sem,updV,Ot.row,u0]
    exact zx2 ⟨0,[]⟩ U.2 (by grind) (by grind) om
  .have av:(st.kind==3)=false:=by grind
   rw[if_neg k3]at aa
   have ax: ∀(b':Mp (List UInt8)),([a.ob .str,b'.ob .str,sn.ob (V.int .i64),.box [.sl .ro wF,.sl .ro (tabsS.map GTable.row),.mp 0,.mp 1,.mp 2],.box st.row,.box out0,.lst (m.map Ln.row) 3]:St).all (ltOb 7)=true:=fun b'=>by
    have h:=xS 7 om a b' sn
    simp_all[runS,ltOb,ltC,ltK,GStmt.row,Ln.row,out0]
   have hG: ∀(b':Mp (List UInt8)) (l':List Ln) (σl:St),NowOk b' l'->delF m l=l'->wret (some (.tup [.agg [.sl .full [],.int .i64 m.length],.int .i64 0])) 4 (xF4 a sn D) (a.ob .str::b'.ob .str::sn.ob (V.int .i64):: .box [.sl .ro wF,.sl .ro (tabsS.map GTable.row),.mp 0,.mp 1,.mp 2]::σl):=fun b' l' σl h1 h2=>
    zx2 ⟨m.length,[]⟩ 0 (by grind) (by grind) (by grind)
   generalize hQ:delF m l=Q at hG
   clear aa ak ah hs
   simp[go_sem,av]
   refine zP (zA ?_)
   simp[go_sem]
   refine zH (S:=Nat×Mp (List UInt8)×List Ln) [0,4,7,71,72,73] (fun u=> [.ptr 3 0,.ptr 5 0,.lsv 6 3 m.length 0 m.length,.lsv 6 3 m.length 0 m.length,.int .i64 m.length,.int .i64 u.1])
    (fun u=> [a.ob .str,u.2.1.ob .str,sn.ob (V.int .i64),.box [.sl .ro wF,.sl .ro (tabsS.map GTable.row),.mp 0,.mp 1,.mp 2],.box st.row,.box out0,.lst (m.map Ln.row) 3]) (fun u=>m.length - u.1)
    (fun u=>u.1<=m.length/\NowOk u.2.1 u.2.2/\delF (m.drop u.1) u.2.2=Q) hc hb (0,b,l) (by grind) ?_ ?_
   .exact at_n 7 (by rfl) rfl (ax b) dc (zF (by rfl) rfl)
   rintro⟨i,b1,l1⟩ ⟨hi,ay,al⟩
   simp only at hi ay al
   by_cases q:i<m.length
   rotate_left
   .rw[A9 om,delF]at al
    refine zA ?_
    simp[go_sem,q,out0]
    refine zA ?_
    simp[go_sem]
    exact hG b1 l1 _ ay al.symm
   have ei:=zS q om
   obtain⟨x,hx⟩:=eX (m[i])
   rw[A5 q,hx,delF]at al
   have eB:b1.ob .str= .mp (kvE .str b1.W) b1.bs b1.clk:=rfl
   have aB:=ay.del x.at
   refine zA ?_
   simp[go_sem,q,hx]
   refine xA [] 8 rfl (by rfl) kR ?_
   simp[go_sem]
   cases an:b1.at x.at with
   |none=>
    have aj:idxW (x.r,x.k) b1.W=none:=an
    rw[xu9 an]at aB
    simp[go_sem,eB,zb8,aj,zd8,ze5,ei]
    exact zG (i+1,b1,l1.filter fun y=> !decide (y.at=x.at)) ⟨om,(by grind),at_n 7 (by rfl) rfl (ax _) dc (zF (by rfl) rfl)⟩
   |some w=>
    have aj:idxW (x.r,x.k) b1.W=some w:=an
    have aC:=xu7 an
    simp[go_sem,eB,zb8,aj,zd8,ze5,aC,ei]
    exact zG (i+1,b1.del x.at,l1.filter fun y=> !decide (y.at=x.at)) ⟨om,(by grind),at_n 7 (by rfl) rfl (ax _) dc (zF (by rfl) rfl)⟩
def plR (p:Pl):List V:= [.int .i64 p.1,.str p.2]
def wrR (w:Wr):List V:= [.str w.p.2,.bool w.drop,.str w.data]
def putR (q:Int×List Wr):List V:= [.int .i64 q.1,.sl .ro (q.2.map wrR)]
def nPut (q:Int×List Wr×Nat):List V:= [.int .i64 q.1,.sl (.app (q.2.2+8)) (q.2.1.map wrR)]
def pOf (N:List (Int×List Wr×Nat)):List (Int×List Wr):=N.map fun q=>(q.1,q.2.1)
theorem xK6 (N:List (Int×List Wr×Nat)):zb7 (N.map nPut) 0 N.length=(pOf N).map putR:=by
 unfold zb7 pOf
 rw[B1,Ap sM,Bh,Bh]
 rfl
theorem wa5 (N:List (Int×List Wr×Nat)):wE (N.map nPut)=true:=by simp[wE,nPut,zC2]
def xT0 (N:List (Int×List Wr×Nat)) (τ:St) (i:Nat):Prop:= ∀O r C k,N=O++ [(r,C,k)]->τ[k]? =some (.app C.length 3)/\C.length<=i
theorem yz0 {α:Type} {g:α->V} {id:Nat} {rows:List (List V)} (hg: ∀v,frzA id rows (g v)=g v): ∀W:List (Pl×α),(kvE g W).map (frzA id rows)=kvE g W
 | []=>rfl
 |e::W=>by
  rw[kvE,Ai,Ai,yz0 hg W,hg]
  rfl
theorem xL9 {id:Nat} {rows:List (List V)}:(runS a b sn).map (zR5 id rows)=runS a b sn:=by
 unfold runS
 simp only[Ai,Bm,Mp.ob,zR5]
 rw[yz0 (fun _=>rfl),yz0 (fun _=>rfl),yz0 (fun _=>rfl)]
 rfl
theorem at_w {n0:Nat} {keep:List Nat} {vs:List V} {s:St} {e:Env} (hs:σ=s) (hn:n0<=σ.length) (h:keep.map e=vs):At n0 keep vs s e σ:=by
 subst hs
 exact zW hn h
theorem xy3 {O:List (Int×List Wr×Nat)} (h:w.p.1=r):grpS (pOf (O++ [(r,C,k)])) w=pOf (O++ [(r,C++ [w],k)]):=by
 unfold grpS pOf
 rw[Co,List.getLast?_append]
 simp[h]
theorem xM3 {O:List (Int×List Wr×Nat)} {r0:Int} {k':Nat} (h:w.p.1=r) (hr: ¬r0=r):grpS (pOf (O++ [(r0,C,k)])) w=pOf ((O++ [(r0,C,k)])++ [(r,[w],k')]):=by
 unfold grpS pOf
 rw[Co,List.getLast?_append]
 simp[h,hr]
theorem zW2 {N:List (Int×List Wr×Nat)} {τ:St} (h:τ[k]? =some (.app C.length 3)) (hl:C.length<=i):xT0 (N++ [(r,C,k)]) τ i:=fun O r' C' k' e=>by
 have h2:=List.append_inj_right' e rfl
 clear e
 cases h2
 exact⟨h,hl⟩
theorem xl9 (a:Mp (List UInt8)) (D:List (Pl×List UInt8)) (e:Pl×List UInt8):keyN a (D++ [e])=if isN a e=true then keyN a D++ [e.1]else keyN a D:=by
 unfold keyN
 by_cases q:isN a e=true
 .rw[if_pos q];simp[Dz,q]
 .rw[if_neg q];simp[Dz,q]
theorem xm0 (b:Mp (List UInt8)) (D:List (Pl×List UInt8)) (e:Pl×List UInt8):keyO b (D++ [e])=if isO b e=true then keyO b D++ [e.1]else keyO b D:=by
 unfold keyO
 by_cases q:isO b e=true
 .rw[if_pos q];simp[Dz,q]
 .rw[if_neg q];simp[Dz,q]
theorem xN1 (a:Mp (List UInt8)) (D:List (Pl×List UInt8)):(keyN a D).length<=D.length:=by
 unfold keyN;rw[An];exact Bj _ _
theorem xN2 (a:Mp (List UInt8)) (D:List (Pl×List UInt8)):(keyO a D).length<=D.length:=by
 unfold keyO;rw[An];exact Bj _ _
theorem MetD.le {α:Type} {seen:List Nat} {W:List (Pl×α)} {bs:List Nat} {D:List (Pl×α)} (h:MetD seen W bs D):D.length<=W.length:=by
 have:=h.length_eq
 simp at this
 omega
theorem wa7 (a b:Mp (List UInt8)) (sn:Mp Int) (au now:List Ln) (ha:NowOk a au) (hn:NowOk b now) (aQ:au.length<=10000) (aR:now.length<=10000):
  VCalls prog 43 [.ptr 3 0] (runS a b sn) (fun r s=>r= .sl .ro ((grpF (chgF au now)).map putR)/\s=runS a b sn):=by
 have eA:a.ob .str= .mp (kvE .str a.W) a.bs a.clk:=rfl
 have eB:b.ob .str= .mp (kvE .str b.W) b.bs b.clk:=rfl
 have aS:a.W.length<=10000:=by have:=ha.perm.length_eq;simp at this;omega
 have aT:b.W.length<=10000:=by have:=hn.perm.length_eq;simp at this;omega
 have aH: ∀x∈b.bs,x<b.clk:=hn.ok.lt
 have has: ∀x∈a.bs,x<a.clk:=ha.ok.lt
 have al: ∀(L:List Pl) (se:List Nat),([a.ob .str,b.ob .str,sn.ob (V.int .i64),.box [.sl .ro wF,.sl .ro (tabsS.map GTable.row),.mp 0,.mp 1,.mp 2],.lst (L.map plR) 2,.it (some 1) b.clk se b.clk]:St).all (ltOb 6)=true:=fun L se=>by
  have h:=xS 6 om a b sn
  simp only[runS,runB,Ac,Cb,C9]at h⊢
  rw[A1,A1,A1]at h⊢
  refine⟨h.1,h.2.1,h.2.2.1, ?_⟩
  rw[A1]
  exact⟨h.2.2.2,by simp[ltOb,ltC,ltK,plR]⟩
 refine iV 4 func43 ntmps43 results43 fun c hc hb=> ?_
 refine zP (zA ?_)
 simp[go_sem,runS,runB]
 refine zP (zA ?_)
 simp[go_sem]
 refine zM6 3 2 dc sg ?_
 refine zP (zA ?_)
 simp[go_sem,eB]
 refine zH (S:=List Nat×List (Pl×List UInt8)) [0,3,21] (fun u=> [.ptr 3 0,.lsv 4 2 (keyN a u.2).length 0 (keyN a u.2).length,.ptr 5 0])
   (fun u=> [a.ob .str,b.ob .str,sn.ob (V.int .i64),.box [.sl .ro wF,.sl .ro (tabsS.map GTable.row),.mp 0,.mp 1,.mp 2],.lst ((keyN a u.2).map plR) 2,.it (some 1) b.clk u.1 b.clk]) (fun u=>(zf6 u.1 b.W b.bs).length)
   (fun u=>MetD u.1 b.W b.bs u.2) hc hb ([],[]) (MetD.start hn.ok.len) ?_ ?_
 have k0:keyN a []= []:=rfl
 .exact at_n 6 (by simp[go_sem,k0];rfl) rfl (al _ _) dc (zF (by simp[go_sem,k0]) rfl)
 .rintro⟨se,D⟩ hD
  simp only at hD
  refine zx7 22 dc ?_
  refine zA ?_
  simp[go_sem,eB]
  have aA:=hD.le
  have aB:=xN1 a D
  refine yE3 (b:=b) (i:=5) (id:=1) (seen:=se) (clk:=b.clk) (by simp[go_sem,zi0]) rfl rfl aH (fun hL=> ?_) (fun p hp=> ?_)
  .have ag:=hD.done hL
   obtain⟨K1,av⟩:=eX (keyN a D)
   have a1:K1.Perm (keyN a b.W):=by rw[<-av];exact(ag.filter _).map _
   have aC:K1.length<=10000:=by rw[<-av];omega
   rw[av]
   clear av ag hL aB aA hD
   have aw: ∀(L:List Pl) (aD:List Nat),([a.ob .str,b.ob .str,sn.ob (V.int .i64),.box [.sl .ro wF,.sl .ro (tabsS.map GTable.row),.mp 0,.mp 1,.mp 2],.lst (L.map plR) 2,.it (some 1) b.clk se b.clk,.it (some 0) a.clk aD a.clk]:St).all (ltOb 7)=true:=fun L aD=>by
    have h:=xS 7 om a b sn
    simp only[runS,runB,Ac,Cb,C9]at h⊢
    rw[A1,A1,A1]at h⊢
    refine⟨h.1,h.2.1,h.2.2.1, ?_⟩
    rw[A1]
    exact⟨h.2.2.2,by simp[ltOb,ltC,ltK,plR]⟩
   simp[go_sem]
   refine zP (zA ?_)
   simp[go_sem,eA]
   have k0:keyO b []= []:=rfl
   refine zH (S:=List Nat×List (Pl×List UInt8)) [0,3,51] (fun u=> [.ptr 3 0,.lsv 4 2 (K1++keyO b u.2).length 0 (K1++keyO b u.2).length,.ptr 6 0])
     (fun u=> [a.ob .str,b.ob .str,sn.ob (V.int .i64),.box [.sl .ro wF,.sl .ro (tabsS.map GTable.row),.mp 0,.mp 1,.mp 2],.lst ((K1++keyO b u.2).map plR) 2,.it (some 1) b.clk se b.clk,.it (some 0) a.clk u.1 a.clk]) (fun u=>(zf6 u.1 a.W a.bs).length)
     (fun u=>MetD u.1 a.W a.bs u.2) hc hb ([],[]) (MetD.start ha.ok.len) ?_ ?_
   .exact at_n 7 (by simp[go_sem,k0,eA,eB]) rfl (aw _ _) dc (zF (by simp[go_sem,k0]) rfl)
   rintro⟨aj,D⟩ hD
   simp only at hD
   refine zx7 52 dc ?_
   refine zA ?_
   simp[go_sem,eA]
   have aA:=hD.le
   have aB:=xN2 b D
   refine yE3 (b:=a) (i:=6) (id:=0) (seen:=aj) (clk:=a.clk) (by simp[go_sem,zi0]) rfl rfl has (fun hL=> ?_) (fun p hp=> ?_)
   .have ag:=hD.done hL
    obtain⟨K2,an⟩:=eX (K1++keyO b D)
    have a6:K2.Perm (keyN a b.W++keyO b a.W):=by rw[<-an];exact a1.append ((ag.filter _).map _)
    have a7:K2.length<=20000:=by rw[<-an,Ak];omega
    have ao:(K1++keyO b D).map plR=K2.map plR:=by rw[an]
    have aq:(K1++keyO b D).length=K2.length:=by rw[an]
    rw[Co]at ao
    rw[Ak]at aq
    clear an ag hL aB aA hD aC a1 k0 al aw
    simp[go_sem,ao,aq]
    refine zP (zA ?_)
    simp[go_sem]
    refine yQ4 Tryz.sortPl rfl cB dc Tryz.sortPl_agg Tryz.sortPl_sz cB yM6 xf7 (f:=plR) (kx:=fun p=>p) (fun x=>⟨_,rfl,rfl⟩) K2 rfl om (fun L ax aE=> ?_)
    have a8:=xu2 ha hn (ax.symm.trans a6) aE
    have aU:L.length<=20000:=by rw[<-ax.length_eq];exact a7
    rw[ax.length_eq]
    clear ax aE a6 a7 aq ao
    simp[go_sem]
    refine zP (zA ?_)
    simp[go_sem]
    refine zM6 11 2 dc sg ?_
    refine zP (zA ?_)
    simp[go_sem]
    obtain⟨G,hG⟩:=eX (grpF (chgF au now))
    rw[hG]
    have aI:(L.map (wrB b)).foldl grpS (pOf [])=G:=by rw[a8];exact hG
    clear a8 hG
    refine zH (S:=Nat×List (Int×List Wr×Nat)×St) [0,11,73,74,75] (fun u=> [.ptr 3 0,.lsv 7 2 u.2.1.length 0 u.2.1.length,.lsv 4 2 L.length 0 L.length,.int .i64 L.length,.int .i64 u.1])
      (fun u=> [a.ob .str,b.ob .str,sn.ob (V.int .i64),.box [.sl .ro wF,.sl .ro (tabsS.map GTable.row),.mp 0,.mp 1,.mp 2],.lst (L.map plR) 2,.it (some 1) b.clk se b.clk,.it (some 0) a.clk aj a.clk,.lst (u.2.1.map nPut) 2]++u.2.2) (fun u=>L.length - u.1)
      (fun u=>u.1<=L.length/\u.2.1.length<=u.1/\xT0 u.2.1 u.2.2 u.1/\((L.map (wrB b)).drop u.1).foldl grpS (pOf u.2.1)=G) hc hb (0,[],[]) ⟨A3 _,A4 _,fun O r C k h=>by simp at h,aI⟩ ?_ ?_
    .exact zW sM sg
    rintro⟨i,N,τ⟩ ⟨hi,aF,aG,aa⟩
    simp only at hi aF aG aa
    by_cases q:i<L.length
    rotate_left
    .rw[A9 (by rw[An];omega),List.foldl_nil]at aa
     refine zA ?_
     simp[go_sem,q]
     refine zA ?_
     simp[go_sem]
     refine yR0 7 2 (N.map nPut) rfl (wa5 N) ?_
     simp only[frzS,frzA,frzC,frzK,An,Ae,A4,and_self,if_true,xK6,aa]
     refine xM 4 (s:=runS a b sn) (r:= .sl .ro (G.map putR)) ?_ rfl (xS 4 dc a b sn) (A4 _) zL ⟨rfl,rfl⟩
     exact xL9
    have ei:=zS q om
    obtain⟨⟨pr,pk⟩,hp⟩: ∃p,L[i]=p:=⟨_,rfl⟩
    rw[A5 (by rw[An];exact q),Ba,D5,hp]at aa
    refine zP (zA ?_)
    simp[go_sem,q]
    refine zP (zA ?_)
    simp[go_sem]
    refine zP (zh3 (zP (zA ?_)))
    simp[go_sem,q,hp,plR]
    refine zg2 (S:=Bool×List UInt8) [0,11,13,14,15,73,74,75] (fun u=> [.ptr 3 0,.lsv 7 2 N.length 0 N.length,.ptr (τ.length+8) 0,.str u.2,.bool (!u.1),.lsv 4 2 L.length 0 L.length,.int .i64 L.length,.int .i64 i])
      (fun u=> [a.ob .str,b.ob .str,sn.ob (V.int .i64),.box [.sl .ro wF,.sl .ro (tabsS.map GTable.row),.mp 0,.mp 1,.mp 2],.lst (L.map plR) 2,.it (some 1) b.clk se b.clk,.it (some 0) a.clk aj a.clk,.lst (N.map nPut) 2]++(τ++ [.box [.int .i64 pr,.str pk]]))
      (fun u=>wrB b (pr,pk)=⟨(pr,pk),u.1,u.2⟩) hc hb ?_ ?_
    .refine xA [] (τ.length+9) sM kR kR ?_
     simp[go_sem,eB]
     cases ae:b.at (pr,pk)with
     |none=>
      have ab:idxW (pr,pk) b.W=none:=ae
      have hw:wrB b (pr,pk)=⟨(pr,pk),true,[]⟩:=by simp[wrB,Mp.get,ae]
      simp[go_sem,zb8,ab,zd8,ze5]
      exact zG (true,[]) ⟨hw,zW sM sg⟩
     |some w=>
      have ab:idxW (pr,pk) b.W=some w:=ae
      have hw:wrB b (pr,pk)=⟨(pr,pk),false,w.2⟩:=by simp[wrB,Mp.get,ae]
      simp[go_sem,zb8,ab,zd8,ze5]
      exact zG (false,w.2) ⟨hw,zW sM sg⟩
    rintro⟨dr,ay⟩ hw
    simp only at hw
    rw[hw]at aa
    rcases List.eq_nil_or_concat N with hN|⟨O,⟨r0,C,k⟩,hN⟩
    .subst hN
     refine zP (zP ?_)
     refine xA [] (τ.length+9) sM kR kR ?_
     simp[go_sem]
     refine zU1 (b:=true) sg (fun _=> ?_) (fun h=>by cases h)
     refine yb0 4 rfl rfl rfl ?_
     simp[go_sem,Bl]
     refine zI (zX rfl) ?_
     simp[go_sem]
     refine zP (zA ?_)
     simp[go_sem]
     refine zc2 [(4,2),(6,2),(12,3),(15,4)] 6 sM kR kR ?_
     simp[go_sem]
     refine zI ⟨(fun r hr=>by cases hr),zX rfl⟩ ?_
     simp[go_sem]
     refine zA ?_
     simp[go_sem,ei]
     exact zG (i+1,[(pr,[⟨(pr,pk),dr,ay⟩],τ.length+1)],τ++ [.box [.int .i64 pr,.str pk],.app 1 3]) ⟨by show L.length - (i+1)<L.length - i;omega,⟨q,by show 1<=i+1;omega,zW2 (N:= []) sM sM,aa⟩,at_w (by simp[nPut,wrR]) sM sg⟩
    rw[List.concat_eq_append]at hN
    subst hN
    obtain⟨hk,hC⟩:=aG O r0 C k rfl
    have az:=(A6.1 hk).1
    have aV:O.length+1<=i:=sU aF
    have z0:((O.length:Int)+1==0)=false:=by simp;omega
    have es:IntKind.i64.wrap (O.length:Int)=O.length:=i64_id om om
    have aJ:IntKind.i64.wrap ((O.length:Int)+1)=((O.length+1:Nat):Int):=by rw[i64_id om om];omega
    by_cases hr:r0=pr
    .subst hr
     refine zP (zP ?_)
     refine xA [] (τ.length+9) sM kR kR ?_
     simp[go_sem,nPut,z0,es]
     refine zI om ?_
     simp[go_sem]
     refine zA ?_
     simp[go_sem]
     refine zP (zA ?_)
     simp[go_sem,es]
     refine zI om ?_
     simp[go_sem]
     refine zc2 [(4,2),(6,2),(12,3),(15,4)] 6 sM kR kR ?_
     have aK:(τ++ [Ob.box [.int .i64 r0,.str pk]])[k]? =some (.app C.length 3):=by rw[Az az];exact hk
     have aL: ∀o,(τ++ [Ob.box [.int .i64 r0,.str pk]]).set k o=τ.set k o++ [Ob.box [.int .i64 r0,.str pk]]:=fun o=>Dr _ _ az
     simp[go_sem,aK,aL]
     refine zI ⟨om,zX rfl⟩ ?_
     simp[go_sem]
     refine zA ?_
     simp[go_sem,ei]
     exact zG (i+1,O++ [(r0,C++ [⟨(r0,pk),dr,ay⟩],k)],τ.set k (.app (C.length+1) 3)++ [.box [.int .i64 r0,.str pk]]) ⟨by show L.length - (i+1)<L.length - i;omega,⟨q,by show(O++ [_]).length<=i+1;simp;omega,zW2 (by rw[Az (sU az),Bd az];simp) (by simp;omega),by rw[xy3 (r:=r0) (w:=⟨(r0,pk),dr,ay⟩) rfl]at aa;exact aa⟩,at_w (by simp[nPut,wrR]) sM sg⟩
    .have aP:(r0 !=pr)=true:=sU hr
     refine zP (zP ?_)
     refine xA [] (τ.length+9) sM kR kR ?_
     simp[go_sem,nPut,z0,es]
     refine zI om ?_
     simp[go_sem,aP]
     refine zU1 (b:=true) sg (fun _=> ?_) (fun h=>by cases h)
     refine yb0 4 rfl rfl rfl ?_
     simp[go_sem,Bl]
     refine zI ⟨zX rfl,om⟩ ?_
     simp[go_sem]
     refine zP (zA ?_)
     simp[go_sem,aJ]
     refine zI om ?_
     simp[go_sem]
     refine zc2 [(4,2),(6,2),(12,3),(15,4)] 6 sM kR kR ?_
     simp[go_sem]
     refine zI ⟨(fun r hr=>by cases hr),zX rfl⟩ ?_
     simp[go_sem]
     refine zA ?_
     simp[go_sem,ei]
     exact zG (i+1,(O++ [(r0,C,k)])++ [(pr,[⟨(pr,pk),dr,ay⟩],τ.length+1)],τ++ [.box [.int .i64 pr,.str pk],.app 1 3]) ⟨by show L.length - (i+1)<L.length - i;omega,⟨q,by show((O++ [_])++ [_]).length<=i+1;simp;omega,zW2 sM sM,by rw[xM3 (k':=τ.length+1) rfl hr]at aa;exact aa⟩,at_w (by simp[nPut,wrR]) sM sg⟩
   .have ar:=yy4 (g:=V.str) ha.ok.nd (zL4 hp)
    have ah:=hD.next ha.ok.nd hp
    have ak:=(zE6 ha.ok.nd hp).length_eq
    obtain⟨⟨⟨pr,pk⟩,data⟩,stamp⟩:=p
    simp only[plV]at ar ah ak
    have af:(zf6 (aj++ [stamp]) a.W a.bs).length<(zf6 aj a.W a.bs).length:=by rw[ak];exact Nat.lt_succ_self _
    clear ak hp
    have ad:=xm0 b D ((pr,pk),data)
    have ai:isO b ((pr,pk),data)=((b.at (pr,pk)).map (·.2)).isNone:=rfl
    simp[go_sem,plV,zi9,ar]
    refine xA [] 8 rfl kR kR ?_
    simp[go_sem,eB]
    cases ae:b.at (pr,pk)with
    |none=>
     have ab:idxW (pr,pk) b.W=none:=ae
     rw[if_pos (by rw[ai,ae];rfl)]at ad
     simp[go_sem,zb8,ab,zd8,ze5,Bl]
     refine zI ⟨zX rfl,om⟩ ?_
     simp[go_sem]
     exact zG (aj++ [stamp],D++ [((pr,pk),data)]) ⟨af,ah,at_n 7 (by simp[go_sem,ad,plR,eA,eB]) rfl (aw _ _) dc (zF (by simp[go_sem,ad,Do]) rfl)⟩
    |some w=>
     have ab:idxW (pr,pk) b.W=some w:=ae
     rw[ae]at ai
     rw[if_neg (by rw[ai];simp)]at ad
     simp[go_sem,zb8,ab,zd8,ze5]
     exact zG (aj++ [stamp],D++ [((pr,pk),data)]) ⟨af,ah,at_n 7 (by simp[go_sem,ad,eA,eB]) rfl (aw _ _) dc (zF (by simp[go_sem,ad]) rfl)⟩
  .have ar:=yy4 (g:=V.str) hn.ok.nd (zL4 hp)
   have ah:=hD.next hn.ok.nd hp
   have ak:=(zE6 hn.ok.nd hp).length_eq
   obtain⟨⟨⟨pr,pk⟩,data⟩,stamp⟩:=p
   simp only[plV]at ar ah ak
   have af:(zf6 (se++ [stamp]) b.W b.bs).length<(zf6 se b.W b.bs).length:=by rw[ak];exact Nat.lt_succ_self _
   clear ak hp
   have ad:=xl9 a D ((pr,pk),data)
   have ai:isN a ((pr,pk),data)=((a.at (pr,pk)).map (·.2) !=some data):=rfl
   simp[go_sem,plV,zi9,ar]
   refine xA [] 7 rfl kR kR ?_
   simp[go_sem,eA]
   cases ae:a.at (pr,pk)with
   |none=>
    have ab:idxW (pr,pk) a.W=none:=ae
    rw[if_pos (by rw[ai,ae];rfl)]at ad
    simp[go_sem,zb8,ab,zd8,ze5,Bl]
    refine zI ⟨zX rfl,om⟩ ?_
    simp[go_sem]
    exact zG (se++ [stamp],D++ [((pr,pk),data)]) ⟨af,ah,at_n 6 (by simp[go_sem,ad,plR,eA];rfl) rfl (al _ _) dc (zF (by simp[go_sem,ad]) rfl)⟩
   |some w=>
    have ab:idxW (pr,pk) a.W=some w:=ae
    rw[ae]at ai
    by_cases q:w.2=data
    .have q':(w.2==data)=true:=sU q
     rw[if_neg (by rw[ai];simpa using q)]at ad
     simp[go_sem,zb8,ab,zd8,ze5,q']
     exact zG (se++ [stamp],D++ [((pr,pk),data)]) ⟨af,ah,at_n 6 (by simp[go_sem,ad,eA];rfl) rfl (al _ _) dc (zF (by simp[go_sem,ad]) rfl)⟩
    .have q':(w.2==data)=false:=sU q
     rw[if_pos (by rw[ai];simpa using q)]at ad
     simp[go_sem,zb8,ab,zd8,ze5,q',Bl]
     refine zI ⟨zX rfl,om⟩ ?_
     simp[go_sem]
     exact zG (se++ [stamp],D++ [((pr,pk),data)]) ⟨af,ah,at_n 6 (by simp[go_sem,ad,plR,eA];rfl) rfl (al _ _) dc (zF (by simp[go_sem,ad]) rfl)⟩
theorem yO5 {T:GTable}: ∀{l p:List GAssign},zt2 T p l=0-> ∀x∈l,0<=colF T x.name
 | [],_,_,x,hx=>by cases hx
 |y::l,p,h,x,hx=>by
  rw[zt2]at h
  by_cases q1:colF T y.name<0
  .omega
  rw[if_neg q1]at h
  by_cases q2:colF T y.name=T.key∨(colF T y.name=0/\T.place=0)
  .omega
  rw[if_neg q2]at h
  by_cases q3:(p.any fun z=>z.name==y.name)=true
  .grind
  rw[if_neg q3]at h
  by_cases q4:zv6 T y.e (colK T (colF T y.name))≠0
  .omega
  rw[if_neg q4]at h
  rcases Af.1 hx with rfl|hx
  .omega
  .exact yO5 h x hx
theorem zV1 {mode:Int}: ∀{l:List GStmt} {i:Nat},(zO3 mode l i).2=0-> ∀z∈l,zp1 z=0
 | [],_,_,z,h=>by cases h
 |y::l,i,h,z,hx=>by
  rw[zO3]at h
  by_cases q1:mode≠0/\y.kind≠1
  .grind
  rw[if_neg q1]at h
  by_cases q2:zp1 y≠0
  .grind
  rw[if_neg q2]at h
  rcases Af.1 hx with rfl|hx
  .simpa using q2
  .exact zV1 h z hx
theorem yl3 (hl:LOk lot) (h:(zp0 lot).2=0): ∀st∈lot.stmts,StOk st:=by
 unfold zp0 at h
 by_cases q:mayL lot=true
 rotate_left
 .grind
 rw[if_pos q]at h
 intro st aa
 have hc:=zV1 h st aa
 have ab:=hl.stmts.2 st aa
 have hm:mayS st=true:=by
  simp_all[mayL]
 unfold zp1 at hc
 have ad:=zJ5 st.table
 have hT: ∃T,tabsS[(zc6 st.table).toNat]? =some T:=by
  grind
 obtain⟨T,hT⟩:=hT
 rw[hT]at hc
 simp only at hc
 have h0:0<=zc6 st.table:=by
  omega
 rw[if_neg om]at hc
 refine⟨ab,xG8 ab.where_.good,h0,fun k1=> ?_,fun k3=> ?_⟩
 .unfold mayS at hm
  rw[A1,A1]at hm
  have hb:=hm.2.2
  unfold xt4 at hb
  rw[if_pos k1,A1]at hb
  intro he
  rw[he]at hb
  exact absurd hb.1 dc
 .rw[A8,hT]
  rw[if_neg om,if_neg om,if_pos k3]at hc
  by_cases q:zt2 T [] st.sets≠0
  .omega
  .exact yO5 (sU q)
theorem xr3 (l:List Ln) (x:Ln):(zU3 l x).length=l.length+1:=(zg3 l x).length_eq
theorem yJ1 {t:Nat} {T:GTable}: ∀{rs:List (List GExpr)} {l:List Ln},(insF t T rs l).1.length<=l.length+rs.length
 | [],l=>by grind[insF]
 |r::rs,l=>by
  rw[insF]
  split
  .simp
  split
  .simp
  split
  .simp
  refine B3 yJ1 ?_
  rw[xr3,Aa];omega
theorem yP9 {T:GTable} {sets:List GAssign}: ∀{m l:List Ln},(updF T sets m l).1.length<=l.length
 | [],l=>A4 _
 |x::m,l=>by
  rw[updF]
  split
  .simp
  split
  .simp
  refine B3 yP9 ?_
  simp[putF]
theorem yH2: ∀{m l:List Ln},(delF m l).length<=l.length
 | [],l=>A4 _
 |x::m,l=>by
  rw[delF]
  exact B3 yH2 (Bj _ _)
theorem xb5:(doS st l).2.1.length<=l.length+st.rows.length:=by
 grind[doS,yJ1,yP9,yH2]
abbrev Vw:=Nat×List (List UInt8×List UInt8)
def prR (q:List UInt8×List UInt8):List V:= [.str q.1,.str q.2]
def vwR (x:Vw):List V:= [.int .i64 x.1,.sl .ro (x.2.map prR)]
def onF (g:Nat) (l:List (List UInt8×List UInt8)):List (Pl×List UInt8):=l.map fun q=>(((g:Int),q.1),q.2)
def yL (vs:List Vw):List (Pl×List UInt8):=vs.flatMap fun x=>onF x.1 x.2
def zZ (vs:List Vw):List Ln:=((yL vs).foldl zv9 ([],[])).2
theorem zz2 (x:Vw) (vs:List Vw):yL (x::vs)=onF x.1 x.2++yL vs:=by rfl
theorem TkI.now_none {s:List (Pl×List UInt8)×List Ln} (h:TkI n s (a,b,sn)) (p:Pl) (h0:sn.at p=none):a.at p=none/\b.at p=none:=by
 have h1:=(h.seen p).1 (get_isNone.2 h0)
 have hb:b.at p=none:=by
  rw[h.now.at_none]
  cases e:atF s.2 p with
  |false=>rfl
  |true=>
   obtain⟨x,hx,aa⟩:=Ad.1 (atF_iff.1 e)
   have:(s.1.any fun e=>e.1==p)=true:=E6.2 ⟨_,(h.lines x hx).2,by grind⟩
   grind
 exact⟨by rw[show a=b from h.same];exact hb,hb⟩
theorem TkI.pos {s:List (Pl×List UInt8)×List Ln} (h:TkI n s (a,b,sn)) (hn:n<=1000000) (p:Pl) (i:Nat) (v:Int) (h0:sn.at p=some (i,v)):1<=v/\v<=1000000:=by
 have:=h.cnt p v (by show(sn.at p).map (·.2)=some v;grind)
 omega
theorem yQ8 (k:Nat) {args:List V} {σin:St} {v:V} (hc:VCalls P f args' σin (fun r s=>r=v/\s=σin)) (hb:wL P f=true) (hk:σ.take k=σin) (hl:σin.length=k) (hok:σin.all (ltOb k)=true) (hv:ltS k v=true)
  (hn: ∀i,i<k->n0.has i=true) (aa: ∀N,All2 (argS (ren (List.range k) N)) args' (args++caps)) (hK:KV v σ):wVD P c n0 1 (.fn f caps) args σ KV fx:=by
 refine⟨v,σ, ?_,fun _=>rfl,fun _=>KeepN.refl,A4 _,hK⟩
 rw[if_neg dc,if_pos rfl]
 intro s hs
 have ab:s.take k=σin:=by
  rw[<-hk]
  refine Bn fun i=> ?_
  rw[Aw,Aw]
  by_cases q:i<k
  .rw[if_pos q,if_pos q];exact Kp.get (hn i q) hs
  .rw[if_neg q,if_neg q]
 refine za4 (P:=P) (c:=c) (KV:=fun r s'=>r=v/\s'=s) k hc hb ab hl hok (aa _) ?_ ?_
 .rintro r s' ⟨rfl,rfl⟩
  exact⟨hl,hok,hv⟩
 .rintro r s' ⟨rfl,rfl⟩
  exact⟨rfl,by rw[<-ab];exact Bo k s⟩
theorem yC2 (n:Nat) (h:3<=n) {τ:St} (hR:τ.all (ltOb n)=true):(runS a b sn++τ).all (ltOb n)=true:=by
 rw[E8,xS n h,hR];rfl
def ansR (x:Int×Int×List Ot):List V:= [.int .i64 x.1,.int .i64 x.2.1,.sl .ro (x.2.2.map Ot.row)]
def runV (lot:GLot) (was:List Ln):V:= .tup [.agg (ansR (lotF lot was).1),.sl .ro ((if(lotF lot was).1.1≠0 then []else grpF (chgF was (lotF lot was).2)).map putR)]
def schO:Ob:= .box [.sl .ro wF,.sl .ro (tabsS.map GTable.row)]
theorem yO1 (lot:GLot) (hl:LOk lot) (vs:List Vw) (aD:vs.length<=100000) (hv: ∀x∈vs,x.1<1000/\x.2.length<=100000/\ ∀q∈x.2,q.2.length<=maxB) (hN:(yL vs).length<=7500):
  Pure prog 21 [schR tabsS,.agg lot.row,.sl .ro (vs.map vwR)] (runV lot (zZ vs)):=by
 have ad:=yM8 lot hl
 obtain⟨aE,av⟩:=hl.stmts
 have ai:=yl3 hl
 obtain⟨⟨ci,cr⟩,hP⟩: ∃P,zp0 lot=P:=⟨_,rfl⟩
 rw[hP]at ad ai
 generalize hM:runV lot (zZ vs)=M
 unfold runV lotF at hM
 rw[hP]at hM
 simp only at hM ai
 refine iV 0 func21 ntmps21 results21 fun c hc hb=> ?_
 refine zP (zA ?_)
 simp[go_sem,schR]
 refine zP (zA ?_)
 simp[go_sem]
 refine zM ad cB (zN (by simp[go_sem,schR]) rfl) rfl ?_
 simp[go_sem,wK]
 by_cases c0:cr=0
 rotate_left
 .have ar:(cr !=0)=true:=sU c0
  rw[if_pos c0]at hM
  simp[go_sem,ar]
  have aF:M= .tup [.agg [.int .i64 cr,.int .i64 ci,.sl .ro []],.sl .ro []]:=by rw[<-hM];simp[c0,ansR]
  exact xP (r:=M) (by rw[aF];exact xU ⟨zd0 ⟨zU rfl,zU rfl,yX,tV⟩,zt5,tV⟩) ⟨rfl,rfl⟩
 have ar:(cr !=0)=false:=sU c0
 rw[if_neg (fun h=>h c0)]at hM
 simp[go_sem,ar]
 refine zg2 (S:=Unit) [2,4,6,10] (fun _=> [.sl .ro (vs.map vwR),.ptr 5 0,.ptr 6 0,.ptr 3 0]) (fun _=>tkS (mp0 _,mp0 _,mp0 _)++ [schO,.box lot.row,.box [.int .i64 0,.int .i64 0,.sl .full []]]) (fun _=>True) hc hb ?_ ?_
 .refine zA ?_
  simp[go_sem]
  exact zG () ⟨tV,zK6 [3,4,5,6,0,1,2] dc rfl ⟨rfl,rfl,rfl,rfl,rfl,rfl,rfl,tV⟩ ⟨zC rfl,.inl rfl,.inl rfl,.inl rfl,tV⟩⟩
 rintro _ _
 have aw:=hl
 obtain⟨Q,hQ⟩:=eX ((yL vs).foldl zv9 ([],[]))
 have ax:zZ vs=Q.2:=by unfold zZ;rw[hQ]
 rw[ax]at hM
 clear ax
 refine zP (zA ?_)
 simp[go_sem]
 refine zH (S:=Nat×Nat×(List (Pl×List UInt8)×List Ln)×M3) [4,6,10,36,37,38] (fun u=> [.ptr 5 0,.ptr 6 0,.ptr 3 0,.sl .ro (vs.map vwR),.int .i64 vs.length,.int .i64 u.1])
  (fun u=>tkS u.2.2.2++ [schO,.box lot.row,.box [.int .i64 0,.int .i64 0,.sl .full []]]) (fun u=>vs.length - u.1)
  (fun u=>u.1<=vs.length/\TkI u.2.1 u.2.2.1 u.2.2.2/\u.2.1+(yL (vs.drop u.1)).length=(yL vs).length/\(yL (vs.drop u.1)).foldl zv9 u.2.2.1=Q) hc hb (0,0,([],[]),(mp0 _,mp0 _,mp0 _)) ⟨A3 _,xV1,sM,hQ⟩ ?_ ?_
 .exact zW sM sg
 rintro⟨i,n,s,a,b,sn⟩ ⟨hi,hT,hn,aa⟩
 simp only at hi hT hn aa
 by_cases q:i<vs.length
 .have ei:=zS q om
  obtain⟨⟨g,ps⟩,hx⟩: ∃x,vs[i]=x:=⟨_,rfl⟩
  obtain⟨hg,ay,az⟩:=hv (g,ps) (hx▸Ab q)
  simp only at hg ay az
  rw[A5 q,hx,zz2]at hn aa
  rw[Df]at aa
  rw[Ak]at hn
  refine zA ?_
  simp[go_sem,tkS,runS,runB,schO,q,hx,vwR]
  refine zH (S:=Nat×Nat×(List (Pl×List UInt8)×List Ln)×M3) [4,6,10,12,36,37,38,43,44,45] (fun u=> [.ptr 5 0,.ptr 6 0,.ptr 3 0,.ptr 7 0,.sl .ro (vs.map vwR),.int .i64 vs.length,.int .i64 i,.sl .ro (ps.map prR),.int .i64 ps.length,.int .i64 u.1])
   (fun u=>tkS u.2.2.2++ [schO,.box lot.row,.box [.int .i64 0,.int .i64 0,.sl .full []],.box (vwR (g,ps))]) (fun u=>ps.length - u.1)
   (fun u=>u.1<=ps.length/\TkI u.2.1 u.2.2.1 u.2.2.2/\u.2.1+((onF g (ps.drop u.1)).length+(yL (vs.drop (i+1))).length)=(yL vs).length/\(yL (vs.drop (i+1))).foldl zv9 ((onF g (ps.drop u.1)).foldl zv9 u.2.2.1)=Q) hc hb (0,n,s,a,b,sn) ⟨A3 _,hT,hn,aa⟩ ?_ ?_
  .exact at_w rfl sM sg
  rintro⟨j,n1,s1,a1,b1,aj⟩ ⟨hj,ae,ak,ab⟩
  simp only at hj ae ak ab
  by_cases qj:j<ps.length
  .have ej:=zS qj om
   obtain⟨⟨k,d⟩,hp⟩: ∃x,ps[j]=x:=⟨_,rfl⟩
   have hd:=az (k,d) (hp▸Ab qj)
   simp only at hd
   have a6:onF g (ps.drop j)=(((g:Int),k),d)::onF g (ps.drop (j+1)):=by
    rw[A5 qj,hp];rfl
   rw[a6,Aa]at ak
   rw[a6,Ba]at ab
   have ag:=wb6 g hg k d hd a1 b1 aj (by rw[show a1=b1 from ae.same];exact ae.now.ok) ae.now.ok ae.sn (ae.now_none _) (ae.pos om _)
   have au:=ae.step (((g:Int),k),d)
   obtain⟨⟨a2,b2,a7⟩,aG⟩: ∃M3,ya4 ((g:Int),k) d (a1,b1,aj)=M3:=⟨_,rfl⟩
   simp only at au
   rw[aG]at ag au
   refine zA ?_
   simp[go_sem,tkS,runS,runB,schO,qj,hp,vwR,prR]
   refine za4 4 ag cB rfl rfl (xS 4 dc a1 b1 aj) (wB (n:=4) rfl) ?_ ?_
   .rintro r s' ⟨rfl,rfl⟩
    exact⟨rfl,xS 4 dc a2 b2 a7,rfl⟩
   rintro r s' ⟨rfl,rfl⟩
   simp[go_sem,tkS,runS,runB,ej]
   exact zG (j+1,n1+1,zv9 s1 (((g:Int),k),d),a2,b2,a7) ⟨by show ps.length - (j+1)<ps.length - j;omega,⟨qj,au,by show n1+1+((onF g (ps.drop (j+1))).length+(yL (vs.drop (i+1))).length)=(yL vs).length;omega,ab⟩,at_n 8 (by rfl) rfl (yC2 8 dc (by simp[ltOb,ltC,ltK])) dc (zF sg rfl)⟩
  .have:j=ps.length:=om
   subst this
   rw[Cf]at ak ab
   refine zA ?_
   simp[go_sem,tkS,runS,runB,schO,ei]
   exact zG (i+1,n1,s1,a1,b1,aj) ⟨by show vs.length - (i+1)<vs.length - i;omega,⟨q,ae,by show n1+(yL (vs.drop (i+1))).length=(yL vs).length;simp[onF]at ak;omega,ab⟩,at_n 7 (by rfl) rfl (yC2 7 dc (by simp[ltOb,ltC,ltK])) dc (zF sg rfl)⟩
 .have:i=vs.length:=om
  subst this
  rw[Cf]at hn aa
  have hs:s=Q:=aa
  subst hs
  have aT:n<=7500:=by simp[yL]at hn;simp[yL]at hN;omega
  have aH:a=b:=hT.same
  subst aH
  have ah:NowOk a s.2:=hT.now
  have aI:s.2.length<=n:=hT.len
  obtain⟨af,al⟩:=eX s.2
  rw[al]at hM ah aI
  clear hT hn aa hN al hv aD
  obtain⟨D,hD⟩:=eX (doL lot.stmts 0 [] af)
  rw[hD]at hM
  have aJ:D.1.1≠0->M= .tup [.agg (ansR D.1),.sl .ro []]:=fun h=>by rw[<-hM];simp[h]
  have aK:D.1.1=0->M= .tup [.agg (ansR D.1),.sl .ro ((grpF (chgF af D.2)).map putR)]:=fun h=>by rw[<-hM];simp[h]
  have ay:D.1.1=0∨D.1.1≠0:=om
  have an:=ai c0
  clear hM ai ad hl aw
  obtain⟨lm,ln,L⟩:=lot
  simp only at aE av hD an
  refine zA ?_
  simp[go_sem,tkS,runS,runB,schO]
  refine zJ8 6 2 2 [.int .i64 0,.int .i64 0,.sl .full []] dc rfl rfl ?_
  refine zP (zA ?_)
  simp[go_sem]
  refine zH (S:=Nat×Mp (List UInt8)×List Ln×List Ot) [6,10,57,58,59] (fun u=> [.ptr 6 0,.ptr 3 0,.sl .ro (L.map GStmt.row),.int .i64 L.length,.int .i64 u.1])
   (fun u=>tkS (a,u.2.1,sn)++ [schO,.box (GLot.row ⟨lm,ln,L⟩),.box [.int .i64 0,.int .i64 0,.sl (.app 7) (u.2.2.2.map Ot.row)],.app u.2.2.2.length 2]) (fun u=>L.length - u.1)
   (fun u=>u.1<=L.length/\NowOk u.2.1 u.2.2.1/\u.2.2.2.length=u.1/\u.2.2.1.length<=7500+20*u.1/\doL (L.drop u.1) u.1 u.2.2.2 u.2.2.1=D) hc hb (0,a,af,[]) ⟨A3 _,ah,rfl,by show af.length<=7500+20*0;omega,hD⟩ ?_ ?_
  .exact at_w rfl sM sg
  rintro⟨i,b,l,outs⟩ ⟨hi,hn,a8,aL,aa⟩
  simp only at hi hn a8 aL aa
  by_cases q:i<L.length
  rotate_left
  .rw[A9 om,doL]at aa
   refine zA ?_
   simp[go_sem,tkS,runS,runB,schO,q]
   have ao:=wa7 a b sn af l ah hn om om
   have aP:D.2=l:=by rw[<-aa]
   have aA:D.1=(0,0,outs):=by rw[<-aa]
   have hM:=aK (by rw[aA])
   rw[aA,aP]at hM
   obtain⟨PW,aQ⟩:=eX (grpF (chgF af l))
   rw[aQ]at ao hM
   refine zP ?_
   refine zc2 [(2,1)] 7 sM kR kR ?_
   simp[go_sem]
   refine yQ8 4 ao cB rfl rfl (xS 4 dc a b sn) rfl (fun i hi=>by simp[go_sem];omega) (fun N=>wB (n:=4) rfl) ?_
   simp[go_sem]
   refine zA ?_
   simp[go_sem]
   exact xP (r:=M) (by rw[hM];exact xU ⟨zd0 ⟨zU rfl,zU rfl,yX,tV⟩,zt5,tV⟩) ⟨rfl,rfl⟩
  have ei:=zS q om
  obtain⟨x,hx⟩:=eX (L[i])
  have aB:x∈L:=hx▸Ab q
  have aq:=xp8 x (an x aB) a b sn l hn om
  have hlen:=xb5 (st:=x) (l:=l)
  have aS:=(av x aB).rows.1
  rw[A5 q,hx,doL]at aa
  obtain⟨E,hE⟩:=eX (doS x l)
  rw[hE]at aa aq hlen
  refine zA ?_
  simp[go_sem,tkS,runS,runB,schO,q,hx]
  refine za4 4 aq cB rfl rfl (xS 4 dc a b sn) (wB (n:=4) rfl) ?_ ?_
  .rintro r s' ⟨b',rfl,rfl,_⟩
   exact⟨rfl,xS 4 dc a b' sn,rfl⟩
  rintro r s' ⟨b',rfl,rfl,aR⟩
  by_cases e0:E.2.2=0
  rotate_left
  .have aC:(E.2.2 !=0)=true:=sU e0
   rw[if_pos e0]at aa
   have hM:=aJ (by rw[<-aa];exact e0)
   simp[go_sem,runS,runB,aC,Ot.row]
   exact xP (r:=M) (by rw[hM,<-aa];exact xU ⟨zd0 ⟨zU rfl,zU rfl,yX,tV⟩,zt5,tV⟩) ⟨rfl,rfl⟩
  have aC:(E.2.2 !=0)=false:=sU e0
  rw[if_neg (fun h=>h e0)]at aa
  simp[go_sem,runS,runB,e0,Ot.row]
  refine zI ⟨om,zX rfl⟩ ?_
  simp[go_sem,ei]
  exact zG (i+1,b',E.2.1,outs++ [E.1]) ⟨by show L.length - (i+1)<L.length - i;omega,⟨q,aR e0,by show(outs++ [E.1]).length=i+1;simp[a8],by show E.2.1.length<=7500+20*(i+1);omega,aa⟩,at_n 8 (by simp[Ot.row]) rfl (yC2 8 dc (by simp[ltOb,ltC,ltK])) dc (zF sg rfl)⟩
theorem yM7 (h:(zp0 lot).2=0): ∀st∈lot.stmts,mayS st=true/\zp1 st=0:=by
 unfold zp0 at h
 by_cases q:mayL lot=true
 rotate_left
 .grind
 rw[if_pos q]at h
 intro st aa
 refine⟨?_,zV1 h st aa⟩
 simp_all[mayL]
theorem yJ2 {tn:Nat} {T:GTable} (hT:tabsS[tn]? =some T): ∀{R:List (List GExpr)} {b:Mp (List UInt8)} {l:List Ln},(∀r∈R,∀e∈r,EOk e)->NowOk b l->(insF tn T R l).2=0-> ∃b',NowOk b' (insF tn T R l).1
 | [],b,l,_,hn,_=>⟨b,hn⟩
 |r::R,b,l,he,hn,h=>by
  rw[insF]at h⊢
  have ab:=yc3 r [] (he r (Al ..)) (fun v hv=>by cases hv)
  by_cases q1:(evsX noT [] r []).2≠0
  .grind
  rw[if_neg q1]at h⊢
  obtain⟨_,ad⟩:=ab om
  have aa:=yc7 tn T hT (evsX noT [] r []).1
  by_cases q2:(keyS tn T (evsX noT [] r []).1).2.2≠0
  .grind
  rw[if_neg q2]at h⊢
  obtain⟨af,ag,ae⟩:=aa om
  by_cases q3:atF l ((keyS tn T (evsX noT [] r []).1).1,(keyS tn T (evsX noT [] r []).1).2.1)=true
  .grind
  rw[if_neg q3]at h⊢
  exact yJ2 hT (by grind) (hn.ins (x:=⟨(keyS tn T (evsX noT [] r []).1).1,(keyS tn T (evsX noT [] r []).1).2.1,(evsX noT [] r []).1⟩) ⟨(by grind),ae,ad⟩ (Bool.eq_false_iff.2 q3)) h
theorem yH3: ∀{m:List Ln} {b:Mp (List UInt8)} {l:List Ln},NowOk b l-> ∃b',NowOk b' (delF m l)
 | [],b,_,hn=>⟨b,hn⟩
 |x::m,b,l,hn=>by
  rw[delF]
  exact yH3 (hn.del x.at)
theorem xb6 (aa:StOk st) (hn:NowOk b l) (h:(doS st l).2.2=0): ∃b',NowOk b' (doS st l).2.1:=by
 obtain⟨tn,ad⟩: ∃tn:Nat,zc6 st.table=tn:=⟨(zc6 st.table).toNat,by have:=aa.tab;omega⟩
 have ab:tn<3:=by
  have h:=zr2 (fun T:GTable=>T.name==st.table) tabsS 0
  have h2:tabsS.length=3:=rfl
  grind[zc6]
 obtain⟨T,hT⟩: ∃T,tabsS[tn]? =some T:=⟨_,A0 (show tn<tabsS.length from ab)⟩
 unfold doS at h⊢
 simp only[ad,As]at h⊢
 rw[show tabsS.getD tn noT=T by grind]at h⊢
 by_cases k2:st.kind=2
 .rw[if_pos k2]at h⊢
  by_cases q:(insF tn T st.rows l).2≠0
  .grind
  .rw[if_neg q]
   exact yJ2 hT (fun r hr=>(aa.ok.rows.2 r hr).2) hn om
 rw[if_neg k2]at h⊢
 by_cases q:(metF tn T st l).2≠0
 .grind
 rw[if_neg q]at h⊢
 by_cases k1:st.kind=1
 .grind
 rw[if_neg k1]at h⊢
 by_cases k3:st.kind=3
 .rw[if_pos k3]at h⊢
  by_cases q2:(updF T st.sets (metF tn T st l).1 l).2≠0
  .grind
  .rw[if_neg q2]
   refine⟨_,yn3 hT aa.ok hn (fun x hx=> ?_) om⟩
   obtain⟨h1,h2⟩:=zS1 x hx
   exact⟨atF_iff.2 (by grind),hn.rows x h1,zK7 ab h2⟩
 .rw[if_neg k3]
  exact yH3 hn
abbrev Pr:=List UInt8×List UInt8
theorem yw1: ∀(tn:Nat) (T:GTable),tabsS[tn]? =some T->tn=0->T.place=0:=by
 intro tn T h h0
 subst h0
 have e:tabsS[0]? =some T:=h
 exact(by decide: ∀T,tabsS[0]? =some T->T.place=0) T e
theorem xm2 (hT:tabsS[tn]? =some T) {row aa:List GValue} (h1:mayT T.cols row=0) (h2:mayT T.cols aa=0) (hk:aa.getD T.key.toNat zeroV=row.getD T.key.toNat zeroV) (hp:T.place=0->aa.getD 0 zeroV=row.getD 0 zeroV):keyS tn T aa=keyS tn T row:=by
 have hr:yl7 tn aa=yl7 tn row:=by
  unfold yl7
  by_cases h0:tn=0
  .rw[if_pos h0,if_pos h0,hp (by grind[yw1])]
  omega
 unfold keyS
 rw[if_neg om,if_neg (show ¬mayT T.cols row≠0 from fun h=>h h1),hr,hk]
 by_cases h0:tn=0
 .grind[yw1]
 grind
theorem xA2 (h:LnOk x) (aa:(ofS x.r).1=(tn:Int)) (hT:tabsS[tn]? =some T) (hk:keyS tn T x.v=(x.r,x.k,0)):LnK x:=by
 unfold LnK zr4
 rw[h.read,aa,As,show tabsS.getD tn noT=T by grind,hk,h.err]
 simp
theorem xd6 (h:LnOk x) (hK:LnK x) (aa:(ofS x.r).1=(tn:Int)) (hT:tabsS[tn]? =some T):keyS tn T x.v=(x.r,x.k,0):=by
 unfold LnK zr4 at hK
 rw[h.read,aa,As,show tabsS.getD tn noT=T by grind]at hK
 grind
theorem xy4 {l:List GValue} {j:Nat} {v:GValue} (h:i≠j):(l.set i v).getD j zeroV=l.getD j zeroV:=by
 grind
theorem ym2 {T:GTable} {old:List GValue} {c:Nat} (hc:(c:Int)=T.key∨((c:Int)=0/\T.place=0)): ∀{sets p:List GAssign} {row:List GValue},zt2 T p sets=0->(setF T old sets row).2=0->(setF T old sets row).1.getD c zeroV=row.getD c zeroV
 | [],_,row,_,_=>rfl
 |y::l,p,row,h,h2=>by
  rw[setF]at h2⊢
  by_cases q:(evR T old y.e).2≠0
  .grind
  rw[if_neg q]at h2⊢
  rw[zt2]at h
  by_cases q1:colF T y.name<0
  .omega
  rw[if_neg q1]at h
  by_cases q2:colF T y.name=T.key∨(colF T y.name=0/\T.place=0)
  .omega
  rw[if_neg q2]at h
  by_cases q3:(p.any fun z=>z.name==y.name)=true
  .grind
  rw[if_neg q3]at h
  by_cases q4:zv6 T y.e (colK T (colF T y.name))≠0
  .omega
  rw[if_neg q4]at h
  rw[ym2 hc h h2]
  refine xy4 fun e=>q2 ?_
  have e2:colF T y.name=(c:Int):=om
  rw[e2]
  exact hc
def LsK (l:List Ln):Prop:= ∀x∈l,LnOk x/\LnK x
theorem xy6 {tn:Nat} {T:GTable} (hT:tabsS[tn]? =some T): ∀{R:List (List GExpr)} {l:List Ln},(∀r∈R,∀e∈r,EOk e)->LsK l->(insF tn T R l).2=0->LsK (insF tn T R l).1
 | [],l,_,hn,_=>hn
 |r::R,l,he,hn,h=>by
  rw[insF]at h⊢
  have ab:=yc3 r [] (he r (Al ..)) (fun v hv=>by cases hv)
  by_cases q1:(evsX noT [] r []).2≠0
  .grind
  rw[if_neg q1]at h⊢
  obtain⟨_,ad⟩:=ab om
  have aa:=yc7 tn T hT (evsX noT [] r []).1
  obtain⟨⟨kr,kk,ke⟩,ae⟩: ∃ks,keyS tn T (evsX noT [] r []).1=ks:=⟨_,rfl⟩
  rw[ae]at h aa⊢
  simp only at h aa⊢
  by_cases q2:ke≠0
  .grind
  rw[if_neg q2]at h⊢
  have af:ke=0:=om
  obtain⟨ah,ai,ag⟩:=aa af
  by_cases q3:atF l (kr,kk)=true
  .grind
  rw[if_neg q3]at h⊢
  have hx:LnOk ⟨kr,kk,(evsX noT [] r []).1⟩:=⟨(by grind),ag,ad⟩
  refine xy6 hT (by grind) (fun z hz=> ?_) h
  rcases Af.1 ((zg3 l _).mem_iff.1 hz)with rfl|hz
  .grind[xA2]
  .exact hn z hz
theorem xu6: ∀{m l:List Ln},LsK l->LsK (delF m l)
 | [],l,h=>h
 |x::m,l,h=>by
  rw[delF]
  exact xu6 (fun y hy=>h y (Bb.1 hy).1)
theorem xG5 {tn:Nat} {T:GTable} (hT:tabsS[tn]? =some T) {st:GStmt} (ad:SOk st) (hc:zt2 T [] st.sets=0): ∀{m l:List Ln},LsK l->(∀x∈m,LnOk x/\LnK x/\(ofS x.r).1=(tn:Int))->(updF T st.sets m l).2=0->LsK (updF T st.sets m l).1
 | [],_,hn,_,_=>hn
 |x::m,l,hn,hm,h0=>by
  obtain⟨aa,al,an⟩:=hm x sM
  obtain⟨ao,aq⟩:=(by decide: ∀T∈tabsS,0<=T.key/\T.key<T.cols.length) T (by grind)
  rw[updF]at h0⊢
  have ab:=fun(c:Nat) (ah:(c:Int)=T.key∨((c:Int)=0/\T.place=0))=>ym2 (T:=T) (old:=x.v) ah (sets:=st.sets) (p:= []) (row:=x.v) hc
  have ae:=yd4 (T:=T) aa.ok (sets:=st.sets) (row:=x.v) (fun y hy=>(ad.sets.2 y hy).2) aa.ok
  obtain⟨E,hE⟩:=eX (setF T x.v st.sets x.v)
  rw[hE]at h0 ab ae⊢
  by_cases q:E.2≠0
  .grind
  rw[if_neg q]at h0⊢
  have q0:E.2=0:=om
  by_cases q2:mayT T.cols E.1≠0
  .grind
  rw[if_neg q2]at h0⊢
  have m0:mayT T.cols E.1=0:=om
  obtain⟨af,T',ar,ag,ai⟩:=aa.tab
  have:af=tn:=om
  subst this
  rw[hT]at ag
  cases ag
  have aj:LnOk ⟨x.r,x.k,E.1⟩:=⟨(by grind),aa.err,(ae q0).2⟩
  have ak:keyS af T E.1=(x.r,x.k,0):=by
   rw[xm2 hT ai m0 (by grind) (by grind)]
   grind[xd6]
  refine xG5 hT ad hc (fun z hz=> ?_) (by grind) h0
  unfold putF at hz
  obtain⟨y,hy,rfl⟩:=Ad.1 hz
  by_cases e:y.at=x.at
  .rw[if_pos e]
   have e1:y.r=x.r:=congrArg Prod.fst e
   have e2:y.k=x.k:=congrArg Prod.snd e
   grind[xA2]
  .rw[if_neg e]
   exact hn y hy
theorem we7 (aa:StOk st) (hc:zp1 st=0) (_hn:NowOk b l) (hk:LsK l) (h:(doS st l).2.2=0):LsK (doS st l).2.1:=by
 obtain⟨tn,ab⟩: ∃tn:Nat,zc6 st.table=tn:=⟨(zc6 st.table).toNat,by have:=aa.tab;omega⟩
 have ad:tn<3:=by
  have h:=zr2 (fun T:GTable=>T.name==st.table) tabsS 0
  have h2:tabsS.length=3:=rfl
  grind[zc6]
 obtain⟨T,hT⟩: ∃T,tabsS[tn]? =some T:=⟨_,A0 (show tn<tabsS.length from ad)⟩
 unfold zp1 at hc
 rw[ab,As,hT]at hc
 simp only at hc
 rw[if_neg om]at hc
 unfold doS at h⊢
 simp only[ab,As]at h⊢
 rw[show tabsS.getD tn noT=T by grind]at h⊢
 by_cases k2:st.kind=2
 .rw[if_pos k2]at h⊢
  by_cases q:(insF tn T st.rows l).2≠0
  .grind
  .rw[if_neg q]
   exact xy6 hT (fun r hr=>(aa.ok.rows.2 r hr).2) hk om
 rw[if_neg k2]at h⊢
 by_cases q:(metF tn T st l).2≠0
 .grind
 rw[if_neg q]at h⊢
 by_cases k1:st.kind=1
 .grind
 rw[if_neg k1]at h⊢
 by_cases k3:st.kind=3
 .rw[if_pos k3]at h⊢
  by_cases q2:(updF T st.sets (metF tn T st l).1 l).2≠0
  .grind
  .rw[if_neg q2]
   have ae:zt2 T [] st.sets=0:=by
    omega
   refine xG5 hT aa.ok ae hk (fun x hx=> ?_) om
   obtain⟨h1,h2⟩:=zS1 x hx
   exact⟨(hk x h1).1,(hk x h1).2,zK7 ad h2⟩
 simp_all[xu6]
theorem xT7: ∀{ss:List GStmt} {i:Nat} {acc:List Ot} {b:Mp (List UInt8)} {l:List Ln},(∀x∈ss,StOk x/\zp1 x=0)->NowOk b l->LsK l->(doL ss i acc l).1.1=0->(∃b',NowOk b' (doL ss i acc l).2)/\LsK (doL ss i acc l).2/\(doL ss i acc l).2.length<=l.length+20*ss.length
 | [],i,acc,b,l,_,hn,hk,_=>(by grind[doL])
 |x::ss,i,acc,b,l,hs,hn,hk,h=>by
  rw[doL]at h⊢
  obtain⟨hx,ab⟩:=hs x sM
  by_cases q:(doS x l).2.2≠0
  .grind
  rw[if_neg q]at h⊢
  have q0:(doS x l).2.2=0:=om
  obtain⟨b',aa⟩:=xb6 hx hn q0
  have hlen:=xb5 (st:=x) (l:=l)
  have hr:=hx.ok.rows.1
  obtain⟨h1,h2,h3⟩:=xT7 (by grind) aa (by grind[we7]) h
  grind
theorem TkI.run: ∀(ps:List (Pl×List UInt8)) {n:Nat} {s:List (Pl×List UInt8)×List Ln} {m:M3},TkI n s m-> ∃m',TkI (n+ps.length) (ps.foldl zv9 s) m'
 | [],n,s,m,h=>⟨m,h⟩
 |p::ps,n,s,m,h=>by
  obtain⟨m',h'⟩:=TkI.run ps (h.step p)
  grind
theorem zB8 (vs:List Vw): ∃m,TkI (yL vs).length ((yL vs).foldl zv9 ([],[])) m:=by
 obtain⟨m,h⟩:=TkI.run (yL vs) xV1
 grind
theorem yx0 {l:List Wr} {aa now:List Ln} (h1: ∀x∈aa,LnOk x) (h2: ∀x∈now,LnOk x) (hw:Rise (aa.map Ln.at)) (hn:Rise (now.map Ln.at)) (hl:l=chgF aa now): ∀w∈l,w.p.1=0∨w.p.1=1∨w.p.1=2∨w.p.1=3:=fun w ad=>by
 rw[hl]at ad
 have hr: ∀x:Ln,LnOk x->x.r=0∨x.r=1∨x.r=2∨x.r=3:=fun x hx=>by
  have:=hx.err
  unfold ofS at this
  grind
 rcases((yc1 hw hn).2 w).1 ad with ⟨_,_,⟨x,hx,ab⟩,_⟩|⟨_,x,hx,ab,_,_⟩
 .rw[<-ab];exact hr x (h1 x hx)
 .rw[<-ab];exact hr x (h2 x hx)
theorem yA1 (hl:LOk lot) (hn:NowOk b l) (hk:LsK l) (h:(lotF lot l).1.1=0):(∃b',NowOk b' (lotF lot l).2)/\LsK (lotF lot l).2/\(lotF lot l).2.length<=l.length+240:=by
 unfold lotF at h⊢
 by_cases q:(zp0 lot).2≠0
 .grind
 rw[if_neg q]at h⊢
 have q0:(zp0 lot).2=0:=om
 by_cases q2:(doL lot.stmts 0 [] l).1.1≠0
 .grind
 rw[if_neg q2]at h⊢
 obtain⟨h1,h2,h3⟩:=xT7 (fun x hx=>⟨yl3 hl q0 x hx,(yM7 q0 x hx).2⟩) hn hk h
 have:=hl.stmts.1
 grind
def insP (k d:List UInt8):Bool->List Pr->List Pr
 |b,[]=>if b=true then []else [(k,d)]
 |b,x::l=>(if(!b&&Op.bytesLess k x.1)=true then [(k,d)]else [])++((if x.1=k then []else [x])++insP k d (b||Op.bytesLess k x.1) l)
def zx8 (l:List Pr):Prop:=l.Pairwise fun a b=>Op.bytesLess a.1 b.1=true
theorem zB3 (k d:List UInt8): ∀l:List Pr,insP k d true l=l.filter fun x=> !decide (x.1=k)
 | []=>rfl
 |x::l=>by
  rw[insP,Dd,zB3 k d l,C4]
  grind
theorem zV9 (k d:List UInt8): ∀(b:Bool) (l:List Pr),(insP k d b l).Perm ((if b=true then []else [(k,d)])++l.filter fun x=> !decide (x.1=k))
 |b,[]=>by rw[insP];simp
 |true,x::l=>by grind[zB3]
 |false,x::l=>by
  rw[insP]
  by_cases q:Op.bytesLess k x.1=true
  .rw[q,E4,zB3]
   grind
  .have q':Op.bytesLess k x.1=false:=by grind
   rw[q',Bx]
   have ih:=zV9 k d false l
   by_cases e:x.1=k
   .simp[e]at ih⊢
    exact ih
   .simp[e]at ih⊢
    exact(ih.cons x).trans (List.Perm.swap ..)
theorem insP_mem {k:List UInt8} {b:Bool} {l:List Pr} {x:Pr}:x∈insP k d b l↔(b=false/\x=(k,d))∨(x∈l/\x.1≠k):=by
 grind[zV9]
theorem yt1 (k d:List UInt8): ∀(b:Bool) {l:List Pr},zx8 l->zx8 (insP k d b l)
 |true,l,h=>by rw[zB3];exact List.Pairwise.sublist Bp h
 |false,[],_=>by rw[insP,if_neg dc];exact List.pairwise_singleton ..
 |false,x::l,h=>by
  have h2:=h
  unfold zx8 at h2
  rw[Bv]at h2
  rw[insP]
  by_cases q:Op.bytesLess k x.1=true
  .have hx:x.1≠k:=(by grind[zm4])
   rw[q,E4,zB3,if_pos (by rfl),if_neg hx]
   show zx8 ((k,d)::x::l.filter _)
   unfold zx8
   refine Bv.2 ⟨fun y hy=> ?_,Bv.2 (by grind)⟩
   rcases Af.1 hy with rfl|hy
   all_goals grind[zv3]
  .have q':Op.bytesLess k x.1=false:=by grind
   rw[q',Bx,Bool.and_false,if_neg dc,Bi]
   have ih:=yt1 k d false h2.2
   by_cases e:x.1=k
   .grind
   .rw[if_neg e]
    show zx8 (x::insP k d false l)
    unfold zx8
    refine Bv.2 ⟨fun y hy=> ?_,ih⟩
    rcases insP_mem.1 hy with ⟨_,rfl⟩|⟨hy,_⟩
    all_goals grind[zH3]
def xy8 (w:Wr) (l:List Pr):List Pr:=insP w.p.2 w.data w.drop l
def doR (g:Int) (P:List (List Pr)) (w:Wr):List (List Pr):=P.set g.toNat (xy8 w (P.getD g.toNat []))
def doQ (P:List (List Pr)) (q:Int×List Wr):List (List Pr):=if q.1<0∨8<=q.1 then P else q.2.foldl (doR q.1) P
def doP (P:List (List Pr)) (qs:List (Int×List Wr)):List (List Pr):=qs.foldl doQ P
theorem yy3 (g:Int) (P:List (List Pr)) (w:Wr):(doR g P w).length=P.length:=by grind[doR]
theorem xM1 {out:List (Int×List Wr)} (hw:0<=w.p.1/\w.p.1<8) (P:List (List Pr)):doP P (grpS out w)=doR w.p.1 (doP P out) w:=by
 have hq: ∀P,doQ P (w.p.1,[w])=doR w.p.1 P w:=fun P=>by unfold doQ;grind
 unfold grpS
 cases q:out.getLast? with
 |none=>
  rw[List.getLast?_eq_none_iff.1 q]
  exact hq P
 |some p=>
  have ho:out=out.dropLast++ [p]:=by
   have h:=List.getLast?_eq_some_iff.1 q
   grind
  simp only
  by_cases e:p.1=w.p.1
  .rw[if_pos e]
   unfold doP
   rw[Df,Ba,List.foldl_nil]
   conv=>rhs;rw[ho,Df,Ba,List.foldl_nil]
   unfold doQ
   grind
  .rw[if_neg e]
   unfold doP
   grind
theorem yy2 (P:List (List Pr)): ∀(l:List Wr) (out:List (Int×List Wr)),(∀w∈l,0<=w.p.1/\w.p.1<8)->doP P (l.foldl grpS out)=l.foldl (fun P w=>doR w.p.1 P w) (doP P out)
 | [],_,_=>rfl
 |w::l,out,h=>by
  rw[Ba,Ba,yy2 P l _ fun x hx=>h x (Am _ hx),xM1 (h w (Al ..))]
def hasP (P:List (List Pr)) (p:Pl) (d:List UInt8):Prop:=0<=p.1/\ ∃l,P[p.1.toNat]? =some l/\(p.2,d)∈l
theorem xb4 {P:List (List Pr)} (h0:0<=w.p.1) (h8:w.p.1.toNat<P.length):hasP (doR w.p.1 P w) p d↔(p=w.p/\w.drop=false/\d=w.data)∨(p≠w.p/\hasP P p d):=by
 obtain⟨g,k⟩:=p
 obtain⟨⟨wg,wk⟩,wd,wb⟩:=w
 simp only at h0 h8
 unfold hasP doR xy8
 simp only
 rw[A8,A0 h8,Option.getD_some]
 by_cases e:g=wg
 .subst e
  rw[Bd h8,A0 h8]
  constructor
  .rintro⟨_,l,hl,hm⟩
   cases hl
   rcases insP_mem.1 hm with ⟨h1,h2⟩|⟨h1,h2⟩
   all_goals grind
  .rintro(⟨h1,h2,h3⟩|⟨h1,_,l,hl,hm⟩)
   .cases h1;exact⟨h0,_,rfl,insP_mem.2 (by grind)⟩
   .cases hl
    exact⟨h0,_,rfl,insP_mem.2 (by grind)⟩
 grind
theorem yI6 {p:Pl} {d:List UInt8}: ∀{ws:List Wr} {P:List (List Pr)},(∀w∈ws,0<=w.p.1/\w.p.1.toNat<P.length)->hasP (ws.foldl (fun P w=>doR w.p.1 P w) P) p d->(∃w∈ws,w.p=p/\w.drop=false/\d=w.data)∨((∀w∈ws,w.p≠p)/\hasP P p d)
 | [],P,_,h=>(by grind)
 |w::ws,P,hw,h=>by
  have aa:=hw w (Al ..)
  rw[Ba]at h
  rcases yI6 (fun x hx=>by rw[yy3];exact hw x (Am _ hx)) h with ⟨x,hx,h1⟩|⟨h1,h2⟩
  .grind
  .rcases(xb4 aa.1 aa.2).1 h2 with ⟨h3,h4,h5⟩|⟨h3,h4⟩
   all_goals grind
theorem xv3 {g:Int} {P:List (List Pr)} (h: ∀l∈P,zx8 l): ∀l∈doR g P w,zx8 l:=fun l hl=>by
 unfold doR at hl
 rcases List.mem_or_eq_of_mem_set hl with hl|rfl
 .grind
 .refine yt1 _ _ _ ?_
  rw[A8]
  cases q:P[g.toNat]? with
  |none=>exact List.Pairwise.nil
  |some l=>grind
theorem zV7: ∀{ws:List Wr} {P:List (List Pr)},(∀l∈P,zx8 l)-> ∀l∈ws.foldl (fun P w=>doR w.p.1 P w) P,zx8 l
 | [],_,h=>h
 |w::ws,P,h=>by rw[Ba];exact zV7 (xv3 h)
theorem zV6: ∀(ws:List Wr) (P:List (List Pr)),(ws.foldl (fun P w=>doR w.p.1 P w) P).length=P.length
 | [],_=>rfl
 |w::ws,P=>by rw[Ba,zV6 ws,yy3]
def vsG:Nat->List (List Pr)->List Vw
 |_,[]=> []
 |i,l::P=>(i,l)::vsG (i+1) P
theorem yd9: ∀(i:Nat) (P:List (List Pr)),(vsG i P).length=P.length
 |_,[]=>rfl
 |i,l::P=>by rw[vsG,Aa,Aa,yd9]
theorem ye0: ∀{i:Nat} {P:List (List Pr)} {x:Vw},x∈vsG i P->i<=x.1/\x.1<i+P.length/\P[x.1 - i]? =some x.2
 |_,[],_,h=>by cases h
 |i,l::P,x,h=>by
  rw[vsG]at h
  rcases Af.1 h with rfl|h
  .simp
  .obtain⟨h1,h2,h3⟩:=ye0 h
   grind
theorem yw7: ∀(i:Nat) (P:List (List Pr)),((vsG i P).map (·.1)).Nodup
 |_,[]=>Cj
 |i,l::P=>by
  rw[vsG,Ai,Bw]
  refine⟨fun h=> ?_,yw7 (i+1) P⟩
  obtain⟨x,hx,e⟩:=Ad.1 h
  have:=(ye0 hx).1
  simp only at e
  omega
theorem yD8: ∀(P:List (List Pr)) (i j:Nat),(vsG i P)[j]? =(P[j]?).map fun l=>(i+j,l)
 | [],_,_=>rfl
 |l::P,i,0=>rfl
 |l::P,i,j+1=>by
  rw[vsG,Cd,Cd,yD8 P (i+1) j]
  rw[show i+1+j=i+(j+1) by omega]
theorem yu4 {P:List (List Pr)} {q:Pl×List UInt8} (h:q∈yL (vsG i P)):(i:Int)<=q.1.1/\P[q.1.1.toNat - i]? ≠none/\ ∀l,P[q.1.1.toNat - i]? =some l->(q.1.2,q.2)∈l:=by
 unfold yL at h
 obtain⟨x,hx,hq⟩:=List.mem_flatMap.1 h
 obtain⟨h1,h2,h3⟩:=ye0 hx
 obtain⟨y,hy,rfl⟩:=Ad.1 hq
 grind
theorem yu3 {P:List (List Pr)} {q:Pl×List UInt8} (h:q∈yL (vsG 0 P)):hasP P q.1 q.2:=by
 obtain⟨h1,h2,h3⟩:=yu4 h
 rw[Nat.sub_zero]at h2 h3
 obtain⟨l,hl⟩:=Option.ne_none_iff_exists'.1 h2
 exact⟨om,l,hl,h3 l hl⟩
theorem yu0: ∀{P:List (List Pr)} {i g:Nat} {k d:List UInt8} {l:List Pr},P[g]? =some l->(k,d)∈l->((((i+g:Nat):Int),k),d)∈yL (vsG i P)
 | [],_,_,_,_,_,h,_=>by grind
 |m::P,i,0,k,d,l,h,hm=>by
  simp at h
  subst h
  rw[vsG,zz2]
  exact List.mem_append_left _ (Ad.2 (by grind))
 |m::P,i,g+1,k,d,l,h,hm=>by
  rw[Cd]at h
  rw[vsG,zz2]
  refine List.mem_append_right _ ?_
  rw[show i+(g+1)=i+1+g by omega]
  exact yu0 h hm
theorem ys7 {P:List (List Pr)} (h:hasP P p d):(p,d)∈yL (vsG 0 P):=by
 obtain⟨h0,l,hl,hm⟩:=h
 have:=yu0 (i:=0) hl hm
 grind
theorem zF0: ∀{P:List (List Pr)} {i:Nat},(∀l∈P,zx8 l)->Rise ((yL (vsG i P)).map (·.1))
 | [],_,_=>List.Pairwise.nil
 |l::P,i,h=>by
  rw[vsG,zz2,Co]
  refine Cv.2 ⟨?_,zF0 (by grind),fun a ha b hb=> ?_⟩
  .unfold onF
   rw[Bh]
   refine C0.2 ((h l (Al ..)).imp fun{a b} aa=> ?_)
   grind[xW]
  .obtain⟨x,hx,rfl⟩:=Ad.1 ha
   obtain⟨y,hy,rfl⟩:=Ad.1 hb
   obtain⟨z,hz,rfl⟩:=Ad.1 hx
   have:=(yu4 hy).1
   simp[xW];omega
theorem ym1: ∀{ps:List (Pl×List UInt8)} {s:List (Pl×List UInt8)×List Ln},((s.1++ps).map (·.1)).Nodup->(ps.foldl zv9 s).1=s.1++ps
 | [],s,_=>by simp
 |q::ps,s,h=>by
  have hq:(s.1.any fun e=>e.1==q.1)=false:=by
   grind
  have hs:(zv9 s q).1=s.1++ [q]:=by
   unfold zv9
   grind
  rw[Ba,ym1 (by rw[hs];simpa using h),hs]
  simp
structure StI (n:Nat) (P:List (List Pr)):Prop where
 eight:P.length=8
 rise: ∀l∈P,zx8 l
 rows: ∀q∈yL (vsG 0 P),zr4 q.1.1 q.1.2 q.2=true
 len:(yL (vsG 0 P)).length<=n
theorem yS8 {data:List UInt8} (h:zr4 p.1 p.2 data=true):data.length<=20000:=by
 obtain⟨h1,h2⟩:=yN6 h
 obtain⟨tn,T,_,hT,hm⟩:=h1.tab
 have hL:=zB7 ((by decide: ∀T∈tabsS,T.cols.length<=20) T (by grind)) h1.ok hm
 have:=zV2 hL (rowF tabsS (ofS p.1).1 data).1.length
 rw[show zG5 (rowF tabsS (ofS p.1).1 data).1 (rowF tabsS (ofS p.1).1 data).1.length=data from h2]at this
 omega
theorem xU9:StI 0 [[],[],[],[],[],[],[],[]]:=
 ⟨rfl,fun l hl=>by
  have:l= []:=by simp_all
  subst this;exact List.Pairwise.nil,dc,dc⟩
theorem StI.vs {P:List (List Pr)} (h:StI n P) (hn:n<=7500):(vsG 0 P).length=8/\(∀x∈vsG 0 P,x.1<1000/\x.2.length<=7500/\ ∀q∈x.2,q.2.length<=maxB)/\((vsG 0 P).map (·.1)).Nodup/\(yL (vsG 0 P)).length<=7500:=by
 refine⟨by rw[yd9];exact h.eight,fun x hx=> ?_,yw7 _ _,B3 h.len hn⟩
 obtain⟨h1,h2,h3⟩:=ye0 hx
 rw[h.eight]at h2
 refine⟨om, ?_,fun q hq=> ?_⟩
 .have:(onF x.1 x.2).Sublist (yL (vsG 0 P)):=by
   unfold yL
   obtain⟨A,B,e⟩:=List.append_of_mem hx
   grind
  have h4:=this.length_le
  have h5:(onF x.1 x.2).length=x.2.length:=by simp[onF]
  have:=h.len
  omega
 .have hm:(((x.1:Int),q.1),q.2)∈yL (vsG 0 P):=List.mem_flatMap.2 ⟨x,hx,Ad.2 (by grind)⟩
  have:=yS8 (p:=((x.1:Int),q.1)) (h.rows _ hm)
  grind
theorem StI.step {P:List (List Pr)} (h:StI n P) (hl:LOk lot):StI (n+240) (doP P (if(lotF lot (zZ (vsG 0 P))).1.1≠0 then []else grpF (chgF (zZ (vsG 0 P)) (lotF lot (zZ (vsG 0 P))).2))):=by
 by_cases e0:(lotF lot (zZ (vsG 0 P))).1.1≠0
 .rw[if_pos e0]
  exact⟨h.eight,h.rise,h.rows,by show(yL (vsG 0 P)).length<=_;have:=h.len;omega⟩
 rw[if_neg e0]
 obtain⟨m,hT⟩:=zB8 (vsG 0 P)
 have ag:((yL (vsG 0 P)).map (·.1)).Nodup:=(zF0 h.rise).nodup
 have ak:((yL (vsG 0 P)).foldl zv9 ([],[])).1=yL (vsG 0 P):=by
  rw[ym1 (sU ag)];rfl
 obtain⟨aa,hw⟩:=eX (zZ (vsG 0 P))
 have ab:NowOk m.2.1 aa:=by rw[<-hw];exact hT.now
 have al:LsK aa:=by rw[<-hw];exact fun x hx=>⟨hT.now.rows x hx,(hT.lines x hx).1⟩
 have au:aa.length<=(yL (vsG 0 P)).length:=by rw[<-hw];exact hT.len
 have ae: ∀q∈yL (vsG 0 P),∃x∈aa,x.at=q.1/\yH x.v=q.2:=fun q hq=>by
  rw[<-hw]
  exact hT.rows q (by grind) (h.rows q hq)
 rw[hw]at e0⊢
 obtain⟨now,hN⟩:=eX ((lotF lot aa).2)
 obtain⟨⟨b',ad⟩,hk,hlen⟩:=yA1 hl ab al (sU e0)
 rw[hN]at ad hk hlen⊢
 have an:=yx0 ab.rows ad.rows ab.rise ad.rise rfl
 have af:=(yc1 ab.rise ad.rise).2
 unfold grpF
 rw[yy2 P _ [] (fun w hw=>by rcases an w hw with h|h|h|h<;>omega)]
 show StI (n+240) ((chgF aa now).foldl (fun P w=>doR w.p.1 P w) P)
 have ah: ∀q∈yL (vsG 0 ((chgF aa now).foldl (fun P w=>doR w.p.1 P w) P)),∃x∈now,(x.at,yH x.v)=q:=fun q hq=>by
  rcases yI6 (fun w hw=>by rw[h.eight];grind) (yu3 hq)with ⟨w,ao,h1,h2,h3⟩|⟨h1,h2⟩
  .rcases(af w).1 ao with ⟨g1,_⟩|⟨_,x,hx,g2,g3,_⟩
   all_goals grind
  .obtain⟨y,hy,av,aw⟩:=ae q (ys7 h2)
   have aq:atF now q.1=true:=by
    cases e:atF now q.1 with
    |true=>rfl
    |false=>exact absurd rfl (h1 ⟨q.1,true,[]⟩ ((af _).2 (.inl (by grind))))
   obtain⟨x,hx,ar⟩:=Ad.1 (atF_iff.1 aq)
   by_cases e:yH x.v=q.2
   .grind
   .refine absurd ar (h1 ⟨x.at,false,yH x.v⟩ ((af _).2 (.inr ⟨rfl,x,hx,rfl,rfl,fun z hz ax e2=>e ?_⟩)))
    have ay:z=y:=by
     have az:=ab.rise.nodup
     obtain⟨i,hi,rfl⟩:=C7 hz
     obtain⟨j,hj,rfl⟩:=C7 hy
     have a1:i=j:=by
      have h1:(aa.map Ln.at)[i]'(by grind)=(aa.map Ln.at)[j]'(by grind):=by
       grind
      grind[Dh]
     grind
    grind
 have ai:=zV7 (ws:=chgF aa now) h.rise
 refine⟨by rw[zV6];exact h.eight,ai,fun q hq=> ?_, ?_⟩
 .obtain⟨x,hx,rfl⟩:=ah q hq
  exact(hk x hx).2
 .have aj:(yL (vsG 0 ((chgF aa now).foldl (fun P w=>doR w.p.1 P w) P))).Nodup:=(C0.1 (zF0 ai).nodup).imp (by grind)
  have hle:=aj.length_le_of_subset (l₂:=now.map fun x=>(x.at,yH x.v)) (by grind)
  rw[An]at hle
  have:=h.len
  omega
theorem xM2 {N:Nat} {out:List (Int×List Wr)} (h:out.length<=N/\ ∀q∈out,q.2.length<=N):(grpS out w).length<=N+1/\ ∀q∈grpS out w,q.2.length<=N+1:=by
 grind[grpS,List.mem_of_getLast?,List.dropLast_subset]
theorem xc5: ∀{l:List Wr} {out:List (Int×List Wr)} {N:Nat},out.length<=N/\(∀q∈out,q.2.length<=N)->(l.foldl grpS out).length<=N+l.length/\ ∀q∈l.foldl grpS out,q.2.length<=N+l.length
 | [],out,N,h=>(by grind)
 |w::l,out,N,h=>by
  have h2:=xc5 (l:=l) (xM2 (w:=w) h)
  grind
theorem xu1 (aa now:List Ln):(chgF aa now).length<=aa.length+now.length:=by
 have hf: ∀(f:Ln->Wr) (m:List Ln) (l:List Wr),(m.foldl (fun l x=>insW l (f x)) l).length=l.length+m.length:=fun f m=>by
  induction m with
  |nil=>simp
  |cons x m ih=>intro l;rw[Ba,ih,(zW0 _ _).length_eq,Aa,Aa];omega
 unfold chgF
 rw[hf (fun x=>⟨x.at,false,yH x.v⟩),hf (fun x=>⟨x.at,true,[]⟩)]
 grind
def ze7 (lot:GLot) (was:List Ln):List (Int×List Wr):=if(lotF lot was).1.1≠0 then []else grpF (chgF was (lotF lot was).2)
theorem xD5 (hl:LOk lot) (hn:NowOk b l) (hk:LsK l) (hlen:l.length<=7500):(ze7 lot l).length<=100000/\ ∀q∈ze7 lot l,q.2.length<=100000:=by
 unfold ze7
 by_cases q:(lotF lot l).1.1≠0
 .grind
 rw[if_neg q]
 obtain⟨_,_,h⟩:=yA1 hl hn hk om
 have h2:=xu1 l (lotF lot l).2
 have h3:=xc5 (l:=chgF l (lotF lot l).2) (out:= []) (N:=0) sM
 grind[grpF]
theorem yc0 (k n:Int) (hk:i64R k) (h1:1<=n) (h2:n<=1000):Pure prog 80 [.int .i64 k,.int .i64 n] (.int .i64 (k%n)):=by
 obtain⟨ae,af⟩:=hk
 have q1:decide (n<1)=false:=decide_eq_false om
 have q0: ¬n<1:=om
 have qz: ¬n=0:=om
 have he:=E9 k (b:=n) om
 have hl:=E0 k (b:=n) om
 have ht:=Int.tmod_eq_emod (a:=k) (b:=n)
 obtain⟨r,hr⟩:=eX (k%n)
 obtain⟨t,ab⟩:=eX (k.tmod n)
 rw[hr]at he hl ht⊢
 rw[ab]at ht
 have ag:((n.natAbs:Nat):Int)=n:=om
 have ad:t=r∨t=r - n:=by
  split at ht
  .left;omega
  .right;omega
 have et:IntKind.i64.wrap t=t:=i64_id om om
 have er:IntKind.i64.wrap r=r:=i64_id om om
 have ret: ∀(v:Int) (σ:St),v=r->wret (some (.int .i64 v)) 0 (fun r' s=>r'= .int .i64 r/\s= []) σ:=fun v σ h=>by subst h;exact wR
 refine iV 0 func80 ntmps80 results80 fun c hc hb=> ?_
 refine zA ?_
 simp[go_sem,q0]
 refine zI qz ?_
 simp[go_sem,ab]
 rcases ad with e|e
 .have q2:decide (t<0)=false:=decide_eq_false om
  have aa: ¬t<0:=om
  simp[go_sem,aa]
  exact ret _ _ e
 .have q2:decide (t<0)=true:=decide_eq_true om
  have aa:t<0:=om
  have e3:t+n=r:=om
  simp[go_sem,aa,e3,er]
  exact wR
def numP (k:Int):List UInt8:=if k.tmod 41=40 then [57,50,50,51,51,55,50,48,51,54,56,53,52,55,55,53,56,48,55]else digF (k%12).toNat
theorem yM0 (k:Int):(numP k).length<=20:=by
 unfold numP
 split
 .decide
 .exact zQ5 _
def xA4:List UInt8:= [57,50,50,51,51,55,50,48,51,54,56,53,52,55,55,53,56,48,55]
def nsL:List (List UInt8):=xA4::(List.range 12).map digF
theorem xf1 (k:Int):numP k∈nsL:=by
 unfold numP
 split
 .exact Al ..
 .exact Am _ (Ad.2 ⟨(k%12).toNat,Ci.2 om,rfl⟩)
theorem yk7 (k:Int) (hk:i64R k):Pure prog 81 [.int .i64 k] (.str (numP k)):=by
 have hp:=yc0 k 12 hk dc dc
 have hd:=ye3 (k%12).toNat om
 rw[show(((k%12).toNat:Nat):Int)=k%12 by omega]at hd
 obtain⟨aa,ab⟩:=hk
 have ht:=Int.tmod_eq_emod (a:=k) (b:=41)
 have et:IntKind.i64.wrap (k.tmod 41)=k.tmod 41:=by
  have:=E9 k (b:=41) dc
  have:=E0 k (b:=41) dc
  split at ht<;>exact i64_id om om
 generalize hM:numP k=M
 unfold numP at hM
 obtain⟨u,hu⟩:=eX (k.tmod 41)
 rw[hu]at et hM
 clear ht
 have ret: ∀(v:List UInt8) (σ:St),v=M->wret (some (.str v)) 0 (fun r' s=>r'= .str M/\s= []) σ:=fun v σ h=>by subst h;exact wR
 refine iV 0 func81 ntmps81 results81 fun c hc hb=> ?_
 refine zA ?_
 by_cases q:u=40
 .rw[if_pos q]at hM
  have q':(u==40)=true:=sU q
  simp[go_sem,hu,q']
  exact ret _ _ hM
 .rw[if_neg q]at hM
  have q':(u==40)=false:=sU q
  simp[go_sem,hu,q']
  refine pC hp ?_
  simp[go_sem]
  refine pC hd ?_
  simp[go_sem]
  exact ret _ _ hM
def gsL:List (List UInt8):= [[39,97,39],[39,98,39],[39,99,39],[39,100,39],[39,101,39]]
theorem xY7 (k:Int) (hk:i64R k): ∃t:List UInt8,t.length<=20/\Pure prog 82 [.int .i64 k] (.str t)/\t∈gsL:=by
 have hp:=yc0 k 5 hk dc dc
 have h0:=E9 k (b:=5) dc
 have h1:=E0 k (b:=5) dc
 obtain⟨r,hr⟩:=eX (k%5)
 rw[hr]at hp h0 h1
 have:r=0∨r=1∨r=2∨r=3∨r=4:=om
 have walk: ∀r:Int,(r=0∨r=1∨r=2∨r=3∨r=4)->Pure prog 80 [.int .i64 k,.int .i64 5] (.int .i64 r)->Pure prog 82 [.int .i64 k] (.str [39,97+UInt8.ofNat r.toNat,39]):=fun r aa hp=>by
  refine iV 0 func82 ntmps82 results82 fun c hc hb=> ?_
  refine zA ?_
  simp[go_sem]
  refine pC hp ?_
  rcases aa with rfl|rfl|rfl|rfl|rfl
  all_goals
   simp[go_sem]
   refine zI (fun x hx=>⟨_,Cc.1 hx⟩) ?_
   simp[go_sem,zq3]
   exact wR
 exact⟨_,sM,walk r this hp,by rcases this with rfl|rfl|rfl|rfl|rfl<;>decide⟩
def bsL:List (List UInt8):= [[84,82,85,69],[70,65,76,83,69]]
theorem xG2 (k:Int) (_hk:i64R k): ∃t:List UInt8,t.length<=20/\Pure prog 83 [.int .i64 k] (.str t)/\t∈bsL:=by
 have ht:=Int.tmod_eq_emod (a:=k) (b:=2)
 have et:IntKind.i64.wrap (k.tmod 2)=k.tmod 2:=by
  have:=E9 k (b:=2) dc
  have:=E0 k (b:=2) dc
  split at ht<;>exact i64_id om om
 obtain⟨u,hu⟩:=eX (k.tmod 2)
 rw[hu]at et
 clear ht
 by_cases q:u=0
 .refine⟨[84,82,85,69],dc, ?_,dc⟩
  have q':(u==0)=true:=sU q
  refine iV 0 func83 ntmps83 results83 fun c hc hb=> ?_
  refine zA ?_
  simp[go_sem,hu,q']
  exact wR
 .refine⟨[70,65,76,83,69],dc, ?_,dc⟩
  have q':(u==0)=false:=sU q
  refine iV 0 func83 ntmps83 results83 fun c hc hb=> ?_
  refine zA ?_
  simp[go_sem,hu,q']
  exact wR
def rsL:List (List UInt8):= [[48],[49]]
def stF (r n g v b:List UInt8):Nat->List UInt8
 |0=> [73,78,83,69,82,84,32,73,78,84,79,32,84,32,86,65,76,85,69,83,32,40]++r++ [44,32]++n++ [44,32,39,118]++v++ [39,44,32]++v++ [41]
 |1=> [73,78,83,69,82,84,32,73,78,84,79,32,84,32,86,65,76,85,69,83,32,40]++r++ [44,32]++n++ [44,32,39,118]++v++ [39,44,32]++v++ [41]
 |2=> [73,78,83,69,82,84,32,73,78,84,79,32,71,32,86,65,76,85,69,83,32,40]++g++ [44,32]++v++ [44,32,78,85,76,76,41]
 |3=> [85,80,68,65,84,69,32,84,32,83,69,84,32,78,32,61,32,78,32,43,32]++v++ [32,87,72,69,82,69,32,75,32,61,32]++n
 |4=> [85,80,68,65,84,69,32,84,32,83,69,84,32,78,32,61,32]++v++ [44,32,86,32,61,32,39,120,39,32,87,72,69,82,69,32,82,32,61,32]++r++ [32,65,78,68,32,75,32,62,61,32]++n
 |5=> [85,80,68,65,84,69,32,71,32,83,69,84,32,78,32,61,32,78,32,42,32]++v++ [32,87,72,69,82,69,32,75,32,61,32]++g
 |6=> [68,69,76,69,84,69,32,70,82,79,77,32,84,32,87,72,69,82,69,32,75,32,60,32]++v
 |7=> [68,69,76,69,84,69,32,70,82,79,77,32,71,32,87,72,69,82,69,32,75,32,61,32]++g
 |8=> [83,69,76,69,67,84,32,42,32,70,82,79,77,32,84]
 |9=> [83,69,76,69,67,84,32,75,44,32,78,32,43,32,49,32,70,82,79,77,32,84,32,87,72,69,82,69,32,82,32,61,32]++r++ [32,79,82,68,69,82,32,66,89,32,78,32,68,69,83,67,32,76,73,77,73,84,32]++v
 |10=> [83,69,76,69,67,84,32,42,32,70,82,79,77,32,71]
 |11=> [83,69,76,69,67,84,32,67,79,85,78,84,40,42,41,44,32,83,85,77,40,78,41,32,70,82,79,77,32,84,32,87,72,69,82,69,32,75,32,60,62,32]++n
 |12=> [83,69,76,69,67,84,32,42,32,70,82,79,77,32,71,32,87,72,69,82,69,32,75,32,61,32]++g
 |13=> [73,78,83,69,82,84,32,73,78,84,79,32,72,32,86,65,76,85,69,83,32,40]++b++ [44,32]++v++ [41]
 |14=> [85,80,68,65,84,69,32,72,32,83,69,84,32,78,32,61,32,78,32,45,32]++v
 |15=> [83,69,76,69,67,84,32,83,85,77,40,78,32,47,32]++v++ [41,32,70,82,79,77,32,72]
 |16=> [73,78,83,69,82,84,32,73,78,84,79,32,84,32,86,65,76,85,69,83,32,40]++r++ [44,32]++n++ [44,32,78,85,76,76,44,32]++v++ [41,44,32,40,49,44,32]++v++ [44,32,39,116,119,111,39,44,32,78,85,76,76,41]
 |17=> [83,69,76,69,67,84,32,78,32,70,82,79,77,32,84,32,87,72,69,82,69,32,75,32,61,32]++n
 |18=> [85,80,68,65,84,69,32,71,32,83,69,84,32,78,32,61,32,78,32,43,32,49,44,32,66,32,61,32,78,32,62,32]++v
 |_=> [83,69,76,69,67,84,32,86,32,70,82,79,77,32,84,32,87,72,69,82,69,32,78,32,73,83,32,78,85,76,76,32,79,82,32,75,32,62,61,32]++n++ [32,79,82,68,69,82,32,66,89,32,86]
theorem xQ4 {r n g v b:List UInt8} (hr:r.length<=20) (hn:n.length<=20) (hg:g.length<=20) (hv:v.length<=20) (hb:b.length<=20) (k:Nat):(stF r n g v b k).length<=300:=by
 unfold stF
 split<;>simp<;>omega
def StT (t:List UInt8):Prop:= ∃r∈rsL,∃n∈nsL,∃g∈gsL,∃v∈nsL,∃b∈bsL,∃w<20,t=stF r n g v b w
theorem zT1 (a:GAct) (ha:a.ok): ∃t:List UInt8,t.length<=300/\Pure prog 37 [.agg a.row] (.str t)/\StT t:=by
 have hw:=yc0 a.what 20 ha.what dc dc
 have ag:=yc0 a.a 2 ha.a dc dc
 have ad:=ye3 (a.a%2).toNat om
 rw[show(((a.a%2).toNat:Nat):Int)=a.a%2 by omega]at ad
 have ah:=yk7 a.b ha.b
 have ai:=yk7 a.c ha.c
 obtain⟨g,au,hg,aj⟩:=xY7 a.b ha.b
 obtain⟨tr,av,ht,ak⟩:=xG2 a.a ha.a
 have h0:=E9 a.what (b:=20) dc
 have h1:=E0 a.what (b:=20) dc
 obtain⟨w,al⟩: ∃w:Nat,a.what%20=w:=⟨(a.what%20).toNat,om⟩
 have ae:w<20:=om
 rw[al]at hw
 clear al h0 h1
 obtain⟨r,hr⟩:=eX (digF (a.a%2).toNat)
 have aw:r.length<=20:=by rw[<-hr];exact zQ5 _
 rw[hr]at ad
 have af:r∈rsL:=by
  have:(a.a%2).toNat=0∨(a.a%2).toNat=1:=om
  rcases this with h|h<;>rw[<-hr,h]<;>decide
 obtain⟨rm,an⟩:=eX (a.a%2)
 rw[an]at ag ad
 clear hr an
 obtain⟨n,hn⟩:=eX (numP a.b)
 have ax:n.length<=20:=by rw[<-hn];exact yM0 _
 rw[hn]at ah
 have ao:n∈nsL:=by rw[<-hn];exact xf1 _
 clear hn
 obtain⟨v,hv⟩:=eX (numP a.c)
 have ay:v.length<=20:=by rw[<-hv];exact yM0 _
 rw[hv]at ai
 have aq:v∈nsL:=by rw[<-hv];exact xf1 _
 clear hv ha
 obtain⟨wh,aa,ab,ac⟩:=a
 simp only at hw ag ah ai hg ht
 refine⟨stF r n g v tr w,xQ4 aw ax au ay av w, ?_,r,af,n,ao,g,aj,v,aq,tr,ak,w,ae,rfl⟩
 clear af ao aj aq ak
 obtain⟨M,hM⟩:=eX (stF r n g v tr w)
 rw[hM]
 have ret: ∀(x:List UInt8) (σ:St),x=M->wret (some (.str x)) 0 (fun r s=>r= .str M/\s= []) σ:=fun x σ h=>by subst h;exact wR
 refine iV 0 func37 ntmps37 results37 fun c hc hb=> ?_
 refine zA ?_
 simp[go_sem]
 refine xA [(2,0),(3,0),(6,0),(9,0)] 1 rfl kR kR ?_
 simp[go_sem]
 refine pD ag ?_
 simp[go_sem]
 refine pD ad ?_
 simp[go_sem]
 refine pD ah ?_
 simp[go_sem]
 refine pD hg ?_
 simp[go_sem]
 refine pC ai ?_
 simp[go_sem]
 refine pC hw ?_
 have ar:w=0∨w=1∨w=2∨w=3∨w=4∨w=5∨w=6∨w=7∨w=8∨w=9∨w=10∨w=11∨w=12∨w=13∨w=14∨w=15∨w=16∨w=17∨w=18∨w=19:=om
 clear hw ae
 rcases ar with rfl|rfl|rfl|rfl|rfl|rfl|rfl|rfl|rfl|rfl|rfl|rfl|rfl|rfl|rfl|rfl|rfl|rfl|rfl|rfl
 all_goals
  simp[go_sem]
  try (refine pC ht ?_;simp[go_sem])
  repeat (refine zI (by first|omega|(simp;omega)) ?_;simp[go_sem])
  exact ret _ _ (by rw[<-hM];simp[stF])
end Go.Proofs.YtefbicjgbaaieaaGreat
namespace Go.Proofs.YtefbicjgbaaieaaGreat
open Go Go.Vx R Go.Proofs.Tryz
set_option maxRecDepth 100000
open Classical in
noncomputable def actT (a:GAct):List UInt8:=if h:a.ok then Classical.choose (zT1 a h)else []
theorem yR7 {a:GAct} (h:a.ok):(actT a).length<=300/\Pure prog 37 [.agg a.row] (.str (actT a))/\StT (actT a):=by
 unfold actT
 rw[dif_pos h]
 exact Classical.choose_spec (zT1 a h)
noncomputable def txF:List GAct->Nat->List UInt8->List UInt8
 | [],_,s=>s
 |a::l,i,s=>if i<3 then txF l (i+1) ((if 0<i then s++ [59,32]else s)++actT a)else s
theorem xh9: ∀{l:List GAct} {i:Nat} {s:List UInt8},(∀a∈l,a.ok)->i<=3->(txF l i s).length<=s.length+302*(3 - i)
 | [],i,s,_,_=>by rw[txF];omega
 |a::l,i,s,h,hi=>by
  rw[txF]
  split
  .rename_i q
   have ha:=(yR7 (h a (Al ..))).1
   refine B3 (xh9 (fun x hx=>h x (Am _ hx)) om) ?_
   rw[Ak]
   have:(if 0<i then s++ [59,32]else s).length<=s.length+2:=by split<;>simp
   omega
  .omega
noncomputable def zC6 (l:List GAct):List UInt8:=if txF l 0 []= []then [83,69,76,69,67,84,32,42,32,70,82,79,77,32,71]else txF l 0 []
theorem yw3 {l:List GAct} (h: ∀a∈l,a.ok):(zC6 l).length<=2000:=by
 unfold zC6
 have:=xh9 (s:= []) h (A3 3)
 split
 .decide
 .simp at this;omega
theorem wb7 (l:List GAct) (_hl:l.length<=maxLen) (hok: ∀a∈l,a.ok):Pure prog 15 [.sl .ro (l.map GAct.row),.int .i64 0,.int .i64 0] (.str (zC6 l)):=by
 obtain⟨M,hM⟩:=eX (zC6 l)
 rw[hM]
 unfold zC6 at hM
 obtain⟨T,hT⟩:=eX (txF l 0 [])
 rw[hT]at hM
 have ret: ∀(x:List UInt8) (σ:St),x=M->wret (some (.str x)) 0 (fun r s=>r= .str M/\s= []) σ:=fun x σ h=>by subst h;exact wR
 refine iV 0 func15 ntmps15 results15 fun c hc hb=> ?_
 refine zA ?_
 simp[go_sem]
 refine zH (S:=Nat×List UInt8) [0,1,7,8] (fun u=> [.sl .ro (l.map GAct.row),.int .i64 0,.str u.2,.int .i64 u.1]) (fun _=> []) (fun u=>l.length - u.1) (fun u=>u.1<=l.length/\u.1<=3/\u.2.length<=302*u.1/\txF (l.drop u.1) u.1 u.2=T) hc hb (0,[]) ⟨A3 _,A3 _,A3 _,hT⟩ ?_ ?_
 .exact aO
 rintro⟨i,s⟩ ⟨hi,af,hs,hinv⟩
 simp only at hi af hs hinv
 by_cases q:i<l.length/\i<3
 rotate_left
 .have ab:s=T:=by
   by_cases q1:i<l.length
   .rw[A5 q1,txF,if_neg om]at hinv
    exact hinv
   .rw[A9 om]at hinv
    exact hinv
  refine zA ?_
  by_cases q1:i<l.length
  .have q3: ¬i<3:=om
   have ad:decide ((i:Int)<3)=false:=decide_eq_false om
   simp[go_sem,q1,ad]
   by_cases q0:s= []
   .have aa:s.isEmpty=true:=sU q0
    rw[if_pos (by rw[<-ab];exact q0)]at hM
    simp[go_sem,aa]
    exact ret _ _ hM
   .have aa:s.isEmpty=false:=sU q0
    rw[if_neg (by rw[<-ab];exact q0)]at hM
    simp[go_sem,aa]
    exact ret _ _ (by rw[ab];exact hM)
  .simp[go_sem,q1]
   by_cases q0:s= []
   .have aa:s.isEmpty=true:=sU q0
    rw[if_pos (by rw[<-ab];exact q0)]at hM
    simp[go_sem,aa]
    exact ret _ _ hM
   .have aa:s.isEmpty=false:=sU q0
    rw[if_neg (by rw[<-ab];exact q0)]at hM
    simp[go_sem,aa]
    exact ret _ _ (by rw[ab];exact hM)
 obtain⟨q1,q3⟩:=q
 have ei:=zS q3 om
 have ad:decide ((i:Int)<3)=true:=decide_eq_true om
 obtain⟨a,ha⟩:=eX (l[i])
 obtain⟨ag,ae,_⟩:=yR7 (hok a (ha▸Ab q1))
 rw[A5 q1,ha,txF,if_pos q3]at hinv
 by_cases q0:0<i
 .have aa:decide (0<(i:Int))=true:=decide_eq_true om
  rw[if_pos q0]at hinv
  refine zA ?_
  simp[go_sem,q1,ad,q0]
  refine zI (by first|omega|(simp;omega)) ?_
  simp[go_sem,q1,ha]
  refine pC ae ?_
  simp[go_sem]
  refine zI (by first|omega|(simp;omega)) ?_
  simp[go_sem,ei]
  exact zG (i+1,s++ [59,32]++actT a) ⟨by show l.length - (i+1)<l.length - i;omega,⟨q1,q3,by simp;omega,hinv⟩,aO⟩
 .have aa:decide (0<(i:Int))=false:=decide_eq_false om
  rw[if_neg q0]at hinv
  refine zA ?_
  simp[go_sem,q1,ad,q0]
  simp[go_sem,ha]
  refine pC ae ?_
  simp[go_sem]
  refine zI (by first|omega|(simp;omega)) ?_
  simp[go_sem,ei]
  exact zG (i+1,s++actT a) ⟨by show l.length - (i+1)<l.length - i;omega,⟨q1,q3,by simp;omega,hinv⟩,aO⟩
end Go.Proofs.YtefbicjgbaaieaaGreat
namespace Go.Proofs.YtefbicjgbaaieaaGreat
open Go Go.Vx R Go.Proofs.Tryz
set_option maxRecDepth 100000
variable {t:List UInt8}
def eofT:GToken:=⟨0,0,[],0⟩
def tokQ (t:List UInt8):List GToken:=(lexR 200 t).getD []
def stQ (t:List UInt8):GStmt:=(zd5 (tokQ t++ [eofT]) rs0).1
def chkQ (f:GStmt->Bool) (t:List UInt8):Bool:=
 match lexR 200 t with
 |none=>false
 |some T=>match zd5 (T++ [eofT]) rs0 with
  |(x,s)=>(decide (s=⟨T.length,0,0,0⟩)&&((T.getD 0 yY).kind==1&& !((T.getD 0 yY).s==wAS)))&&f x
theorem xK5 {f:GStmt->Bool} (h:chkQ f t=true):lexR 200 t=some (tokQ t)/\Rd (tokQ t,stQ t)/\f (stQ t)=true:=by
 unfold chkQ at h
 unfold stQ tokQ
 cases e:lexR 200 t with
 |none=>rw[e]at h;cases h
 |some T=>
  rw[e]at h
  simp only[Option.getD_some]at h⊢
  obtain⟨y,hx⟩: ∃x,zd5 (T++ [eofT]) rs0=x:=⟨_,rfl⟩
  obtain⟨x,s⟩:=y
  rw[hx]at h⊢
  simp only[A1,decide_eq_true_eq,beq_iff_eq,Ck,beq_eq_false_iff_ne]at h
  obtain⟨⟨h1,h2,h3⟩,h4⟩:=h
  exact⟨tV,⟨by rw[<-h1];exact hx,h2,h3⟩,h4⟩
def allN (f:List UInt8->Bool) (r:List UInt8) (w:Nat):Bool:=nsL.all fun v=>nsL.all fun n=>f (stF r n [] v [] w)
def allV (f:List UInt8->Bool):Bool:=
 nsL.all fun v=>f (stF [] [] [] v [] 6)&&(f (stF [] [] [] v [] 14)&&(f (stF [] [] [] v [] 15)&&(f (stF [] [] [] v [] 18)&&((gsL.all fun g=>f (stF [] [] g v [] 2)&&f (stF [] [] g v [] 5))&&((bsL.all fun b=>f (stF [] [] [] v b 13))&&rsL.all fun r=>f (stF r [] [] v [] 9))))))
def allG (f:List UInt8->Bool):Bool:=
 (gsL.all fun g=>f (stF [] [] g [] [] 7)&&f (stF [] [] g [] [] 12))&&(f (stF [] [] [] [] [] 8)&&(f (stF [] [] [] [] [] 10)&&(nsL.all fun n=>f (stF [] n [] [] [] 11)&&(f (stF [] n [] [] [] 17)&&f (stF [] n [] [] [] 19)))))
structure AllQ (f:List UInt8->Bool):Prop where
 n3:allN f [] 3=true
 n0: ∀r∈rsL,allN f r 0=true
 n4: ∀r∈rsL,allN f r 4=true
 n16: ∀r∈rsL,allN f r 16=true
 v:allV f=true
 g:allG f=true
theorem zQ0 {f:List UInt8->Bool} {r:List UInt8} {w:Nat} (h:allN f r w=true) {n v:List UInt8} (hn:n∈nsL) (hv:v∈nsL):f (stF r n [] v [] w)=true:=by
 simp only[allN,Aj]at h
 exact h v hv n hn
theorem xJ7 {f:List UInt8->Bool} (h:AllQ f) (ht:StT t):f t=true:=by
 obtain⟨r,hr,n,hn,g,hg,v,hv,b,hb,w,hw,rfl⟩:=ht
 have aa:=h.v
 have ab:=h.g
 simp only[allV,allG,A1,Aj]at aa ab
 obtain⟨h3,h4,h5,h6⟩:=ab
 obtain⟨b1,b2,b3,b4,b5,b6,b7⟩:=aa v hv
 match w,hw with
 |0,_=>exact zQ0 (h.n0 r hr) hn hv
 |1,_=>exact zQ0 (h.n0 r hr) hn hv
 |2,_=>exact(b5 g hg).1
 |3,_=>exact zQ0 h.n3 hn hv
 |4,_=>exact zQ0 (h.n4 r hr) hn hv
 |5,_=>exact(b5 g hg).2
 |6,_=>exact b1
 |7,_=>exact(h3 g hg).1
 |8,_=>exact h4
 |9,_=>exact b7 r hr
 |10,_=>exact h5
 |11,_=>exact(h6 n hn).1
 |12,_=>exact(h3 g hg).2
 |13,_=>exact b6 b hb
 |14,_=>exact b2
 |15,_=>exact b3
 |16,_=>exact zQ0 (h.n16 r hr) hn hv
 |17,_=>exact(h6 n hn).2.1
 |18,_=>exact b4
 |19,_=>exact(h6 n hn).2.2
 |w+20,hw=>omega
theorem xm4 {n:Nat} {T:List GToken} (h:lexR n t=some T):lexR (n+2) (59::32::t)=some (semi::T):=by
 have e:oneS 0 (59::32::t)=(⟨4,0,[59],0⟩,1,0):=by
  unfold oneS
  rw[List.headD_cons,if_neg dc,if_neg dc,if_neg dc,if_neg (fun h=>absurd h.2 sM),if_pos dc]
 rw[lexR,if_neg dc,e,if_pos rfl,D0,B1,lexR,if_pos dc,h]
 rfl
theorem yj8 {n m:Nat} {u:List UInt8} {T U:List GToken} (h:lexR n t=some T) (g:lexR m u=some U):lexR (n+(m+2)) (t++([59,32]++u))=some (T++semi::U):=yj7 h (xm4 g)
theorem xq7 {f:GStmt->Bool} (hf:AllQ (chkQ f)) {l:List GAct} (hok: ∀a∈l,a.ok): ∃aa:List GStmt,aa≠ []/\aa.length<=3/\(∀st∈aa,f st=true)/\yC (zC6 l)=(⟨0,0,aa⟩,0,0):=by
 have hQ: ∀{t},StT t->lexR 200 t=some (tokQ t)/\Rd (tokQ t,stQ t)/\f (stQ t)=true:=fun ht=>xK5 (xJ7 hf ht)
 have hA: ∀a∈l,StT (actT a):=fun a ha=>(yR7 (hok a ha)).2.2
 have ab: ∀{t},StT t->t≠ []:=fun{t} ht e=>by
  have h:=(hQ ht).2.1.hd
  rw[e]at h
  exact absurd h dc
 have fin: ∀(ts:List (List UInt8)) (n:Nat) (t:List UInt8),ts≠ []->ts.length<=3->(∀x∈ts,StT x)->t.length<=2000->lexR n t=some (zG6 (ts.map fun x=>(tokQ x,stQ x)))-> ∃aa:List GStmt,aa≠ []/\aa.length<=3/\(∀st∈aa,f st=true)/\yC t=(⟨0,0,aa⟩,0,0):=fun ts n t h0 h3 hs hl hx=>by
  have:=yW1 hx hl (fun q hq=>by
   obtain⟨x,hx,rfl⟩:=Ad.1 hq
   exact(hQ (hs x hx)).2.1) (sU h0) (by rw[An];omega)
  refine⟨ts.map stQ,by simpa using h0,by rw[An];exact h3,fun st ad=> ?_,by rw[this,Bh];rfl⟩
  obtain⟨x,hx,rfl⟩:=Ad.1 ad
  exact(hQ (hs x hx)).2.2
 have hlen:=yw3 hok
 unfold zC6 at hlen⊢
 match l,hA with
 | [],_=>
  rw[txF,if_pos rfl]at hlen⊢
  have hs:StT [83,69,76,69,67,84,32,42,32,70,82,79,77,32,71]:=⟨[48],dc,xA4,dc,[39,97,39],dc,xA4,dc,[84,82,85,69],dc,10,dc,rfl⟩
  exact fin [[83,69,76,69,67,84,32,42,32,70,82,79,77,32,71]] 200 _ sM sM (fun x hx=>by rw[Cc.1 hx];exact hs) hlen (hQ hs).1
 | [a],hA=>
  have h1:=hA a sM
  have e:txF [a] 0 []=actT a:=by rw[txF,if_pos dc,if_neg dc,txF];rfl
  rw[e,if_neg (ab h1)]at hlen⊢
  exact fin [actT a] 200 _ sM sM (fun x hx=>by rw[Cc.1 hx];exact h1) hlen (hQ h1).1
 | [a,b],hA=>
  have h1:=hA a sM
  have h2:=hA b sM
  have e:txF [a,b] 0 []=actT a++([59,32]++actT b):=by
   rw[txF,if_pos dc,if_neg dc,txF,if_pos dc,if_pos dc,txF,Bi,Cw]
  rw[e,if_neg sM]at hlen⊢
  exact fin [actT a,actT b] _ _ sM sM (fun x hx=>by
   simp only[Af,Ay,or_false]at hx
   rcases hx with rfl|rfl
   .exact h1
   .exact h2) hlen (yj8 (hQ h1).1 (hQ h2).1)
 |a::b::d::l,hA=>
  have h1:=hA a sM
  have h2:=hA b sM
  have h3:=hA d sM
  have e:txF (a::b::d::l) 0 []=actT a++([59,32]++(actT b++([59,32]++actT d))):=by
   rw[txF,if_pos dc,if_neg dc,txF,if_pos dc,if_pos dc,txF,if_pos dc,if_pos dc]
   have: ∀(l:List GAct) s,txF l 3 s=s:=fun l s=>by cases l<;>rfl
   rw[this]
   simp
  rw[e,if_neg sM]at hlen⊢
  exact fin [actT a,actT b,actT d] _ _ sM sM (fun x hx=>by
   simp only[Af,Ay,or_false]at hx
   rcases hx with rfl|rfl|rfl
   .exact h1
   .exact h2
   .exact h3) hlen (yj8 (hQ h1).1 (yj8 (hQ h2).1 (hQ h3).1))
section
variable {c:Pl->Bool}
theorem xp6 {l m:List Ln} (h:Rise (l.map Ln.at)) (g:Rise (m.map Ln.at)) (hp:l.Perm m):l=m:=
 hp.eq_of_pairwise (fun a b _ _ h g=>by rw[zO7 h]at g;cases g) (C0.1 h) (C0.1 g)
def wf0 (tn:Nat) (T:GTable) (r:List GExpr) (p:Pl):Prop:=(evsX noT [] r []).2=0/\keyS tn T (evsX noT [] r []).1=(p.1,p.2,0)
end
variable {P:List (List Pr)}{l:List Ln}{lot:GLot}
theorem yI1 {T:GTable} {row:List GValue}: ∀(r:List GExpr) (acc:List GValue),(evsX T row r acc).2=0->(evsX T row r acc).1=acc++r.map (fun e=>(evR T row e).1)/\ ∀e∈r,(evR T row e).2=0
 | [],acc,_=>⟨by simp[evsX],fun e he=>(by cases he)⟩
 |e::r,acc,h=>by
  rw[evsX]at h⊢
  by_cases q:(evR T row e).2≠0
  .rw[if_pos q]at h;exact absurd h q
  rw[if_neg q]at h⊢
  obtain⟨h1,h2⟩:=yI1 r _ h
  refine⟨by rw[h1];simp,fun x hx=> ?_⟩
  rcases Af.1 hx with rfl|hx
  .simpa using q
  .exact h2 x hx
theorem xm7 {vs:List Vw} (hd:((yL vs).map (·.1)).Nodup):Rise ((zZ vs).map Ln.at)/\LsK (zZ vs)/\(∀x∈zZ vs,(x.at,yH x.v)∈yL vs)/\ ∀q∈yL vs,zr4 q.1.1 q.1.2 q.2=true-> ∃x∈zZ vs,x.at=q.1/\yH x.v=q.2:=by
 obtain⟨m,hT⟩:=zB8 vs
 have hs:((yL vs).foldl zv9 ([],[])).1=yL vs:=by rw[ym1 (sU hd)];rfl
 refine⟨hT.now.rise,fun x hx=>⟨hT.now.rows x hx,(hT.lines x hx).1⟩,fun x hx=>by rw[<-hs];exact(hT.lines x hx).2,fun q hq=>hT.rows q (by rw[hs];exact hq)⟩
theorem xd7 {x y:Ln} (hx:LnOk x) (hy:LnOk y) (h1:x.at=y.at) (h2:yH x.v=yH y.v):x=y:=by
 have e1:=hx.read
 have e2:=hy.read
 obtain⟨xr,xk,xv⟩:=x
 obtain⟨yr,yk,yv⟩:=y
 cases h1
 simp only at e1 e2 h2
 rw[h2,e2]at e1
 cases e1;rfl
theorem yI7 {p:Pl} {d:List UInt8}: ∀{ws:List Wr} {P:List (List Pr)},zv0 ws->(∀w∈ws,0<=w.p.1/\w.p.1.toNat<P.length)->(hasP (ws.foldl (fun P w=>doR w.p.1 P w) P) p d↔(∃w∈ws,w.p=p/\w.drop=false/\d=w.data)∨((∀w∈ws,w.p≠p)/\hasP P p d))
 | [],P,_,_=>by simp
 |w::ws,P,hr,hw=>by
  have aa:=hr
  unfold zv0 at aa
  rw[Bv]at aa
  have ab:=hw w (Al ..)
  have ad: ∀x∈ws,x.p≠w.p:=fun x hx e=>by have:=aa.1 x hx;rw[e,zB5]at this;cases this
  rw[Ba,yI7 aa.2 fun x hx=>by rw[yy3];exact hw x (Am _ hx)]
  rw[xb4 ab.1 ab.2]
  constructor
  .rintro(⟨x,hx,h⟩|⟨h1,⟨h2,h3,h4⟩|⟨h2,h3⟩⟩)
   .exact .inl ⟨x,Am _ hx,h⟩
   .exact .inl ⟨w,Al ..,h2.symm,h3,h4⟩
   .refine .inr ⟨fun x hx=> ?_,h3⟩
    rcases Af.1 hx with rfl|hx
    .exact fun e=>h2 e.symm
    .exact h1 x hx
  .rintro(⟨x,hx,h1,h2,h3⟩|⟨h1,h2⟩)
   .rcases Af.1 hx with rfl|hx
    .exact .inr ⟨fun y hy=>by rw[<-h1];exact ad y hy,.inl ⟨h1.symm,h2,h3⟩⟩
    .exact .inl ⟨x,hx,h1,h2,h3⟩
   .exact .inr ⟨fun x hx=>h1 x (Am _ hx),.inr ⟨fun e=>h1 w (Al ..) e.symm,h2⟩⟩
structure Tl (P:List (List Pr)) (l:List Ln):Prop where
 eight:P.length=8
 rise: ∀x∈P,zx8 x
 lrise:Rise (l.map Ln.at)
 lok:LsK l
 has: ∀p d,hasP P p d↔ ∃x∈l,x.at=p/\yH x.v=d
theorem StI.tl {n:Nat} (h:StI n P):Tl P (zZ (vsG 0 P)):=by
 obtain⟨a1,a2,a3,a4⟩:=xm7 (zF0 (i:=0) h.rise).nodup
 refine⟨h.eight,h.rise,a1,a2,fun p d=>⟨fun hp=> ?_, ?_⟩⟩
 .have:=ys7 hp
  exact a4 (p,d) this (h.rows _ this)
 .rintro⟨x,hx,rfl,rfl⟩
  exact yu3 (a3 x hx)
theorem Tl.uniq {m:List Ln} (h:Tl P l) (g:Tl P m):l=m:=by
 have nd: ∀{l:List Ln},Rise (l.map Ln.at)->l.Nodup:=fun h=>(C0.1 h.nodup).imp fun aa e=>aa (congrArg _ e)
 refine xp6 h.lrise g.lrise ((List.perm_ext_iff_of_nodup (nd h.lrise) (nd g.lrise)).2 fun x=>⟨fun hx=> ?_,fun hx=> ?_⟩)
 .obtain⟨y,hy,e1,e2⟩:=(g.has _ _).1 ((h.has _ _).2 ⟨x,hx,rfl,rfl⟩)
  rw[<-xd7 (g.lok y hy).1 (h.lok x hx).1 e1 e2];exact hy
 .obtain⟨y,hy,e1,e2⟩:=(h.has _ _).1 ((g.has _ _).2 ⟨x,hx,rfl,rfl⟩)
  rw[<-xd7 (h.lok y hy).1 (g.lok x hx).1 e1 e2];exact hy
theorem Tl.step {aa:List Ln} (h:Tl P aa) {b:Mp (List UInt8)} (hn:NowOk b aa) (hl:LOk lot) (h0:(lotF lot aa).1.1=0):Tl (doP P (ze7 lot aa)) (lotF lot aa).2:=by
 obtain⟨⟨b',ab⟩,hk,_⟩:=yA1 hl hn h.lok h0
 obtain⟨now,hN⟩:=eX ((lotF lot aa).2)
 unfold ze7
 rw[if_neg (fun q=>absurd h0 q)]
 rw[hN]at ab hk⊢
 have aj:=yx0 hn.rows ab.rows hn.rise ab.rise rfl
 obtain⟨ak,ad⟩:=yc1 hn.rise ab.rise
 have al: ∀w∈chgF aa now,0<=w.p.1/\w.p.1.toNat<P.length:=fun w hw=>by rw[h.eight];rcases aj w hw with h|h|h|h<;>omega
 unfold grpF
 rw[yy2 P _ [] (fun w hw=>by rcases aj w hw with h|h|h|h<;>omega)]
 show Tl ((chgF aa now).foldl (fun P w=>doR w.p.1 P w) P) now
 have ae: ∀{x y:Ln},x∈now->y∈now->x.at=y.at->x=y:=fun{x y} hx hy e=>by
  have af:=ab.rise.nodup
  obtain⟨i,hi,rfl⟩:=C7 hx
  obtain⟨j,hj,rfl⟩:=C7 hy
  have ag:i=j:=(Dh af (h₀:=by simpa using hi) (h₁:=by simpa using hj)).1 (by rw[D5,D5,e])
  subst ag;rfl
 refine⟨by rw[zV6];exact h.eight,zV7 h.rise,ab.rise,hk,fun p d=>(yI7 ak al).trans ⟨?_, ?_⟩⟩
 .rintro(⟨w,hw,rfl,h1,rfl⟩|⟨h1,h2⟩)
  .rcases(ad w).1 hw with ⟨g1,_⟩|⟨_,x,hx,g2,g3,_⟩
   .rw[g1]at h1;cases h1
   .exact⟨x,hx,g2,g3⟩
  .obtain⟨y,hy,rfl,rfl⟩:=(h.has _ _).1 h2
   have an:atF now y.at=true:=by
    cases e:atF now y.at with
    |true=>rfl
    |false=>exact absurd rfl (h1 ⟨y.at,true,[]⟩ ((ad _).2 (.inl ⟨rfl,rfl,⟨y,hy,rfl⟩,e⟩)))
   obtain⟨x,hx,ah⟩:=Ad.1 (atF_iff.1 an)
   refine⟨x,hx,ah,C5 fun e=>h1 ⟨x.at,false,yH x.v⟩ ((ad _).2 (.inr ⟨rfl,x,hx,rfl,rfl,fun z hz ai e2=> ?_⟩)) ah⟩
   have af:=hn.rise.nodup
   obtain⟨i,hi,rfl⟩:=C7 hz
   obtain⟨j,hj,rfl⟩:=C7 hy
   have ag:i=j:=(Dh af (h₀:=by simpa using hi) (h₁:=by simpa using hj)).1 (by rw[D5,D5,ai,ah])
   subst ag
   exact e e2.symm
 .rintro⟨x,hx,rfl,rfl⟩
  by_cases q: ∃y∈aa,y.at=x.at/\yH y.v=yH x.v
  .refine .inr ⟨fun w hw e=> ?_,(h.has _ _).2 q⟩
   rcases(ad w).1 hw with ⟨_,_,_,g⟩|⟨_,z,hz,g2,_,g4⟩
   .rw[e,atF_iff.2 (Ad.2 ⟨x,hx,rfl⟩)]at g;cases g
   .obtain⟨y,hy,y1,y2⟩:=q
    have ai:=ae hz hx (g2.trans e)
    subst ai
    exact g4 y hy y1 y2
  .exact .inl ⟨⟨x.at,false,yH x.v⟩,(ad _).2 (.inr ⟨rfl,x,hx,rfl,rfl,fun y hy y1 y2=>q ⟨y,hy,y1,y2⟩⟩),rfl,rfl,rfl⟩
theorem lotF_0:(lotF lot l).1.1=0↔(zp0 lot).2=0/\(doL lot.stmts 0 [] l).1.1=0:=by
 unfold lotF
 by_cases q:(zp0 lot).2≠0
 .rw[if_pos q];exact⟨fun h=>absurd h q,fun h=>absurd h.1 q⟩
 rw[if_neg q]
 by_cases q2:(doL lot.stmts 0 [] l).1.1≠0
 .rw[if_pos q2];exact⟨fun h=>absurd h q2,fun h=>absurd h.2 q2⟩
 .rw[if_neg q2];exact⟨fun h=>⟨by simpa using q,h⟩,fun h=>h.2⟩
theorem xN5 (h:(lotF lot l).1.1=0):lotF lot l=doL lot.stmts 0 [] l:=by
 obtain⟨h1,h2⟩:=lotF_0.1 h
 unfold lotF
 rw[if_neg (fun q=>q h1),if_neg (fun q=>q h2)]
def yB (P:List (List Pr)):List V:=P.map fun l=> .sl .ro (l.map prR)
theorem ye8 {i:Nat} (h:i<P.length):(yB P)[i]? =some (.sl .ro ((P[i]).map prR)):=by simp[yB,h]
theorem zO2 (P:List (List Pr)):(yB P).length=P.length:=by simp[yB]
theorem zF8 (P:List (List Pr)) (h8:P.length=8):VCalls prog 16 [.ptr 0 0] [.box (yB P)] (fun r s=>r= .sl .ro ((vsG 0 P).map vwR)/\s= [.box (yB P)]):=by
 obtain⟨C,hC⟩:=eX (yB P)
 have ae:C.length=8:=by rw[<-hC,zO2,h8]
 have af: ∀i,i<8->C[i]? =some (.sl .ro ((P.getD i []).map prR)):=fun i hi=>by
  rw[<-hC,ye8 om,A8,A0 om];rfl
 have aa: ∀n,ltOb n (.box C)=true:=fun n=>by rw[<-hC];simp[ltOb,ltC,ltK,yB]
 rw[hC]
 clear hC
 refine iV 1 func16 ntmps16 results16 fun c hc hb=> ?_
 refine zA ?_
 simp[go_sem]
 refine zo5 3 2 dc sg ?_
 refine zH (S:=Nat×List Vw) [0,3,4] (fun u=> [.ptr 0 0,.sl (.app 1) (u.2.map vwR),.int .i64 u.1]) (fun u=> [.box C,.app u.2.length 2]) (fun u=>8 - u.1) (fun u=>u.1<=8/\u.2=(vsG 0 P).take u.1) hc hb (0,[]) ⟨A3 _,sM⟩ ?_ ?_
 .exact aN 2 (by rw[Ac,aa];rfl)
 rintro⟨i,out⟩ ⟨hi,ho⟩
 simp only at hi ho
 by_cases q:i<8
 rotate_left
 .have h2:out=vsG 0 P:=by rw[ho];exact Ap (by rw[yd9];omega)
  have q': ¬(i:Int)<8:=om
  refine zA ?_
  simp[go_sem,q']
  exact zp7 1 rfl (by simp[aa]) (A4 _) zL ⟨by rw[h2],rfl⟩
 have ag:out.length=i:=by rw[ho,D4,yd9];omega
 have ei:=zS q om
 have q':(i:Int)<8:=om
 have ab:(vsG 0 P)[i]? =some (i,P.getD i []):=by
  rw[yD8,A0 om,A8,A0 om]
  simp
 have ad:out++ [(i,P.getD i [])]=(vsG 0 P).take (i+1):=by
  rw[ho,Cx,ab];rfl
 obtain⟨p,hp⟩:=eX (P.getD i [])
 have hC:=af i q
 rw[hp]at hC ad
 rw[A0 om]at hC
 have hC:=Option.some.inj hC
 refine zA ?_
 simp[go_sem,q,q',hC,ae]
 refine zI ⟨om,zX rfl⟩ ?_
 simp[go_sem,ei]
 exact zG (i+1,out++ [(i,p)]) ⟨by show 8 - (i+1)<8 - i;omega,⟨q,ad⟩,aM 2 (by rw[Ac,aa];rfl) (zF (by simp[go_sem,vwR]) rfl)⟩
theorem xD2 (l:List Pr):wE (l.map prR)=true:=by simp[wE,prR,zC2]
theorem xp3 (l:List Pr):zb7 (l.map prR) 0 l.length=l.map prR:=by
 unfold zb7
 rw[B1,Ap sM,Bh]
 exact Bk fun _ _=>rfl
theorem yS1 (id:Nat) (rows:List (List V)) (P:List (List Pr)):(yB P).map (frzC id rows)=yB P:=by
 unfold yB
 rw[Bh]
 exact Bk fun _ _=>rfl
theorem yS2 (P:List (List Pr)) (i:Nat) (l:List Pr) (h:i<P.length):(yB P).take i++ .sl .ro (l.map prR)::(yB P).drop (i+1)=yB (P.set i l):=by
 have h2:=List.set_eq_take_append_cons_drop (l:=yB P) (i:=i) (a:=V.sl .ro (l.map prR))
 rw[if_pos (by rw[zO2];exact h)]at h2
 rw[<-h2]
 unfold yB
 rw[List.map_set]
theorem yv9 (P:List (List Pr)) (h8:P.length=8) (ad: ∀l∈P,l.length<=10000) (qs:List (Int×List Wr)) (hq:qs.length<=100000) (hw: ∀q∈qs,q.2.length<=100000):VCalls prog 17 [.ptr 0 0,.sl .ro (qs.map putR)] [.box (yB P)] (fun r s=>r= .tup []/\s= [.box (yB (doP P qs))]):=by
 obtain⟨F,hF⟩:=eX (doP P qs)
 rw[hF]
 have ae: ∀n (P:List (List Pr)),ltOb n (.box (yB P))=true:=fun n P=>by simp[ltOb,ltC,ltK,yB]
 refine iV 1 func17 ntmps17 results17 fun c hc hb=> ?_
 refine zA ?_
 simp[go_sem]
 refine zH (S:=Nat×List (List Pr)) [0,1,4] (fun u=> [.ptr 0 0,.sl .ro (qs.map putR),.int .i64 u.1]) (fun u=> [.box (yB u.2)]) (fun u=>qs.length - u.1) (fun u=>u.1<=qs.length/\u.2.length=8/\(∀l∈u.2,l.length<=10000+100000*u.1)/\doP u.2 (qs.drop u.1)=F) hc hb (0,P) ⟨A3 _,h8,fun l hl=>by have:=ad l hl;simp only;omega,hF⟩ ?_ ?_
 .exact aN 1 (by rw[Ac,ae];rfl)
 rintro⟨i,P⟩ ⟨hi,h8,ad,hinv⟩
 simp only at hi h8 ad hinv
 by_cases q:i<qs.length
 rotate_left
 .have h2:P=F:=by rw[A9 om]at hinv;exact hinv
  refine zA ?_
  simp[go_sem,q]
  exact zp7 1 rfl (by simp[ae]) (A4 _) (zC rfl) ⟨rfl,by rw[h2];rfl⟩
 have ei:=zS q om
 obtain⟨⟨g,ws⟩,hx⟩: ∃x,qs[i]=x:=⟨_,rfl⟩
 have ak:=hw (g,ws) (hx▸Ab q)
 simp only at ak
 rw[A5 q,hx]at hinv
 change doP (doQ P (g,ws)) (qs.drop (i+1))=F at hinv
 unfold doQ at hinv
 simp only at hinv
 by_cases qg:g<0∨8<=g
 .rw[if_pos qg]at hinv
  have fin: ∀l∈P,l.length<=10000+100000*(i+1):=fun l hl=>by have:=ad l hl;omega
  rcases Classical.em (g<0)with q0|q0
  .have ah:decide (g<0)=true:=decide_eq_true q0
   refine zA ?_
   simp[go_sem,q,hx,putR,q0,ei]
   exact zG (i+1,P) ⟨by show qs.length - (i+1)<qs.length - i;omega,⟨q,h8,fin,hinv⟩,aN 1 (by rw[Ac,ae];rfl)⟩
  .have ah:decide (g<0)=false:=decide_eq_false q0
   have q8:8<=g:=om
   have al:decide (8<=g)=true:=decide_eq_true q8
   refine zA ?_
   simp[go_sem,q,hx,putR,q0,q8,ei]
   exact zG (i+1,P) ⟨by show qs.length - (i+1)<qs.length - i;omega,⟨q,h8,fin,hinv⟩,aN 1 (by rw[Ac,ae];rfl)⟩
 rw[if_neg qg]at hinv
 obtain⟨gn,rfl⟩: ∃gn:Nat,g=gn:=⟨g.toNat,om⟩
 have ax:gn<8:=om
 have q0: ¬(gn:Int)<0:=om
 have q8: ¬8<=(gn:Int):=om
 have ah:decide ((gn:Int)<0)=false:=decide_eq_false q0
 have al:decide (8<=(gn:Int))=false:=decide_eq_false q8
 refine zA ?_
 simp[go_sem,q,hx,putR,ah,q8]
 refine zH (S:=Nat×List (List Pr)) [0,1,4,5] (fun u=> [.ptr 0 0,.sl .ro (qs.map putR),.int .i64 i,.int .i64 u.1]) (fun u=> [.box (yB u.2)]) (fun u=>ws.length - u.1) (fun u=>u.1<=ws.length/\u.2.length=8/\(∀l∈u.2,l.length<=10000+100000*i+u.1)/\doP ((ws.drop u.1).foldl (doR gn) u.2) (qs.drop (i+1))=F) hc hb (0,P) ⟨A3 _,h8,ad,hinv⟩ ?_ ?_
 .exact aN 1 (by rw[Ac,ae];rfl)
 rintro⟨k,P⟩ ⟨hk,h8,ad,hinv⟩
 simp only at hk h8 ad hinv
 by_cases qk:k<ws.length
 rotate_left
 .rw[A9 om,List.foldl_nil]at hinv
  refine zA ?_
  simp[go_sem,q,hx,putR,qk,ei]
  exact zG (i+1,P) ⟨by show qs.length - (i+1)<qs.length - i;omega,⟨q,h8,fun l hl=>by have:=ad l hl;simp only;omega,hinv⟩,aN 1 (by rw[Ac,ae];rfl)⟩
 have ek:=zS qk om
 obtain⟨⟨⟨wr,wk⟩,wd,wb⟩,hy⟩: ∃x,ws[k]=x:=⟨_,rfl⟩
 rw[A5 qk,hy,Ba]at hinv
 obtain⟨p,hp⟩:=eX (P[gn]'om)
 have ay:=ad p (hp▸Ab _)
 have an:doR gn P ⟨(wr,wk),wd,wb⟩=P.set gn (insP wk wb wd p):=by
  unfold doR xy8
  rw[As,A8,A0 om,hp];rfl
 rw[an]at hinv
 have ao:(yB P).length=8:=by rw[zO2,h8]
 have aq:(yB P)[gn]'om= .sl .ro (p.map prR):=by
  have:=ye8 (P:=P) (i:=gn) om
  rw[A0 om,hp]at this
  exact Option.some.inj this
 have ar:(yB P)[gn]? =some (.sl .ro (p.map prR)):=by rw[A0 om,aq]
 have az:p.length<40000000000:=om
 have af: ∀a:List Pr,([.box (yB P),.box [.str wk,.bool wd,.str wb],.lst (a.map prR) 2]:St).all (ltOb 3)=true:=fun a=>by rw[Ac,ae,Au];simp[ltOb,ltC,ltK,prR]
 obtain⟨Z,hZ⟩:=eX (insP wk wb wd p)
 rw[hZ]at hinv
 have a1:Z.length<=p.length+1:=by
  rw[<-hZ,(zV9 wk wb wd p).length_eq,Ak]
  have:=Bj (fun x:Pr=> !decide (x.1=wk)) p
  split<;>simp<;>omega
 refine zP (zA ?_)
 simp[go_sem,q,hx,putR,qk]
 refine zP (zh3 (zP (zA ?_)))
 simp[go_sem,q,hx,putR,qk,hy,wrR]
 refine zP (zA ?_)
 simp[go_sem]
 refine zM6 7 2 dc sg ?_
 refine zP (zA ?_)
 simp[go_sem]
 refine zP ?_
 refine zP ?_
 refine xA [] 3 rfl kR kR ?_
 simp[go_sem,q,hx,putR]
 refine zI om ?_
 simp[go_sem,ar]
 refine zh3 ?_
 refine zH (S:=Nat×List Pr×Bool) [0,1,4,5,6,7,8,60,61,62] (fun u=> [.ptr 0 0,.sl .ro (qs.map putR),.int .i64 i,.int .i64 k,.ptr 1 0,.lsv 2 2 u.2.1.length 0 u.2.1.length,.bool u.2.2,.sl .ro (p.map prR),.int .i64 p.length,.int .i64 u.1])
   (fun u=> [.box (yB P),.box [.str wk,.bool wd,.str wb],.lst (u.2.1.map prR) 2]) (fun u=>p.length - u.1)
   (fun u=>u.1<=p.length/\u.2.1.length<=2*u.1/\u.2.1++insP wk wb u.2.2 (p.drop u.1)=Z) hc hb (0,[],wd) ⟨A3 _,A3 _,hZ⟩ ?_ ?_
 .exact aN 3 (by rw[Ac,ae];rfl)
 .rintro⟨j,acc,b⟩ ⟨hj,au,aa⟩
  simp only at hj au aa
  by_cases qj:j<p.length
  rotate_left
  .rw[A9 om,insP]at aa
   refine zA ?_
   simp[go_sem,qj]
   refine zg2 (S:=Unit) [0,1,4,5,7] (fun _=> [.ptr 0 0,.sl .ro (qs.map putR),.int .i64 i,.int .i64 k,.lsv 2 2 Z.length 0 Z.length]) (fun _=> [.box (yB P),.box [.str wk,.bool wd,.str wb],.lst (Z.map prR) 2]) (fun _=>True) hc hb ?_ ?_
   .cases b with
    |true=>
     have hz:acc=Z:=sU aa
     refine zA ?_
     simp[go_sem]
     exact zG () ⟨tV,at_n 3 (by simp[go_sem,hz]) rfl (af _) dc (zF (by simp[go_sem,hz]) rfl)⟩
    |false=>
     have hz:acc++ [(wk,wb)]=Z:=sU aa
     have av:Z.length=acc.length+1:=by rw[<-hz];simp
     refine zA ?_
     simp[go_sem,Bl]
     refine zI ⟨zX rfl,om⟩ ?_
     simp[go_sem]
     exact zG () ⟨tV,at_n 3 (by simp[go_sem,<-hz,prR]) rfl (af _) dc (zF (by simp[go_sem,av]) rfl)⟩
   rintro _ _
   refine zq6 2 2 (Z.map prR) rfl (xD2 Z) ?_
   refine xA [] 3 (by simp[zm9]) kR kR ?_
   simp[go_sem,frzS,frzA,frzC,frzK,zm9,zR5,q,hx,putR,xp3,yS1]
   refine zI om ?_
   have h7:gn<=7:=om
   simp[go_sem,ao,h7,yS2 P gn Z om]
   have aj: ∀l∈P.set gn Z,l.length<=10000+100000*i+(k+1):=fun l hl=>by
    rcases List.mem_or_eq_of_mem_set hl with hl|rfl
    .have:=ad l hl;omega
    .omega
   refine zA ?_
   simp[go_sem,ek]
   exact zG (k+1,P.set gn Z) ⟨by show ws.length - (k+1)<ws.length - k;omega,⟨qk,by simp[h8],aj,hinv⟩,aN 1 (by rw[Ac,ae];rfl)⟩
  have ej:=zS qj om
  obtain⟨⟨xk,xd⟩,ag⟩: ∃x,p[j]=x:=⟨_,rfl⟩
  rw[A5 qj,ag,insP]at aa
  simp only at aa
  have fin: ∀(ab:List Pr) (b':Bool),ab.length<=acc.length+2->ab++insP wk wb b' (p.drop (j+1))=Z->p.length - (j+1)<p.length - j/\(j+1<=p.length/\ab.length<=2*(j+1)/\ab++insP wk wb b' (p.drop (j+1))=Z):=fun ab b' h1 h2=>⟨om,qj,om,h2⟩
  by_cases e:xk=wk
  .subst e
   rw[zm4]at aa
   have hn:(xk !=xk)=false:=sM
   have hl:Op.bytesLess xk xk=false:=zm4 _
   obtain⟨g1,g2⟩:=fin acc b om (sU aa)
   cases b with
   |true=>
    refine zA ?_
    simp[go_sem,qj,ag,prR,ej]
    exact zG (j+1,acc,true) ⟨g1,g2,aN 3 (af _)⟩
   |false=>
    refine zA ?_
    simp[go_sem,qj,ag,prR,hl,ej]
    exact zG (j+1,acc,false) ⟨g1,g2,aN 3 (af _)⟩
  have hn:(xk==wk)=false:=sU e
  have a6: ¬xk=wk:=e
  rw[if_neg e]at aa
  have a7: ∀ab:List Pr,ab.length<=2*p.length+2->(ab.length+1)*32<=140737488355328:=fun _ h=>by omega
  cases b with
  |true=>
   obtain⟨g1,g2⟩:=fin (acc++ [(xk,xd)]) true sM (sU aa)
   refine zA ?_
   simp[go_sem,qj,ag,prR,hn,Bl]
   refine zI ⟨zX rfl,om⟩ ?_
   simp[go_sem,ej]
   exact zG (j+1,acc++ [(xk,xd)],true) ⟨g1,g2,at_n 3 (by simp[go_sem,prR]) rfl (af _) dc (zF sg rfl)⟩
  |false=>
   by_cases hl:Op.bytesLess wk xk=true
   .rw[hl]at aa
    obtain⟨g1,g2⟩:=fin (acc++ [(wk,wb),(xk,xd)]) true sM (sU aa)
    have ai:Op.bytesLess xk wk=false:=by
     cases z:Op.bytesLess xk wk with
     |false=>rfl
     |true=>have:=zv3 _ _ _ hl z;rw[zm4]at this;cases this
    refine zA ?_
    simp[go_sem,qj,ag,prR,hn,ai,Bl]
    refine zI ⟨zX rfl,om⟩ ?_
    simp[go_sem,hn,Bl]
    refine zI ⟨zX rfl,om⟩ ?_
    simp[go_sem,ej]
    exact zG (j+1,acc++ [(wk,wb),(xk,xd)],true) ⟨g1,g2,at_n 3 (by simp[go_sem,prR]) rfl (af _) dc (zF sg rfl)⟩
   .have aw:Op.bytesLess wk xk=false:=sU hl
    rw[aw]at aa
    obtain⟨g1,g2⟩:=fin (acc++ [(xk,xd)]) false sM (sU aa)
    have ai:Op.bytesLess xk wk=true:=by
     rcases zH3 xk wk with z|z|z
     .exact z
     .exact absurd z e
     .exact absurd z hl
    refine zA ?_
    simp[go_sem,qj,ag,prR,hn,ai,Bl]
    refine zI ⟨zX rfl,om⟩ ?_
    simp[go_sem,ej]
    exact zG (j+1,acc++ [(xk,xd)],false) ⟨g1,g2,at_n 3 (by simp[go_sem,prR]) rfl (af _) dc (zF sg rfl)⟩
theorem zn8:Pure prog 20 [] (schR tabsS):=by
 have aa:=xs0
 refine iV 0 func20 ntmps20 results20 fun c hc hb=> ?_
 refine zA ?_
 simp[go_sem]
 refine pC aa ?_
 simp[go_sem,schS]
 exact xP (r:=schR tabsS) xE4 ⟨rfl,rfl⟩
def tx22:List UInt8:= [73,78,83,69,82,84,32,73,78,84,79,32,71,32,86,65,76,85,69,83,32,40,39,97,39,44,32,49,44,32,78,85,76,76,41,59,32,83,69,76,69,67,84,32,78,32,70,82,79,77,32,71]
theorem wg3:(lotF (yC tx22).1 []).1=(0,0,[⟨1,[]⟩,⟨0,[[⟨2,1,[]⟩]]⟩]):=kR
theorem xD4:(ze7 (yC tx22).1 []).map (fun q=>q.2.length)= [1]:=kR
theorem zS7 (lot:GLot) (aa:List Ln):runV lot aa= .tup [.agg (ansR (lotF lot aa).1),.sl .ro ((ze7 lot aa).map putR)]:=rfl
theorem xj9:Pure prog 12 [] (.bool true):=by
 have hl:=yE8 tx22 dc
 have hr:=yO1 (yC tx22).1 (zC1 tx22) [] dc (fun x hx=>by cases hx) dc
 rw[zS7,show zZ []= [] from rfl,wg3]at hr
 obtain⟨q,hq⟩: ∃q,ze7 (yC tx22).1 []= [q]:=by
  have h:=xD4
  cases e:ze7 (yC tx22).1 []with
  |nil=>rw[e]at h;cases h
  |cons x l=>cases l with
   |nil=>exact⟨x,rfl⟩
   |cons y l=>rw[e]at h;simp at h
 have aa:q.2.length=1:=by have h:=xD4;rw[hq]at h;simpa using h
 rw[hq]at hr
 obtain⟨L,hL⟩:=eX ((yC tx22).1)
 rw[hL]at hl hr
 obtain⟨g,ws⟩:=q
 simp only at aa
 have ab:=zn8
 unfold tx22 at hl
 refine iV 0 func12 ntmps12 results12 fun c hc hb=> ?_
 refine zA ?_
 simp[go_sem]
 refine pC ab ?_
 simp[go_sem,schR]
 refine xA [(1,0),(2,0)] 1 rfl kR kR ?_
 simp[go_sem]
 refine pD hl ?_
 simp[go_sem]
 refine pD hr ?_
 simp[go_sem,ansR,Ot.row,putR,aa]
 exact wR
end Go.Proofs.YtefbicjgbaaieaaGreat
