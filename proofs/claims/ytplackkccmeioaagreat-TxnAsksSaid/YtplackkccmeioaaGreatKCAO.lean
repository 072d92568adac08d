/-
  What the document lays of one range is that range's part of what is otherwise now. Used by the walk of the document's Run.
  Conditions: as each theorem states them.
-/
import Derived.Test.YtplackkccmeioaaGreatKCAN
import Derived.Test.YtplackkccmeioaaGreatKCAF
import Derived.Test.YtplackkccmeioaaGreatKCAK
import Derived.Test.YtplackkccmeioaaGreatKCAG
set_option maxHeartbeats 8000000
namespace Go.Proofs.YtplackkccmeioaaGreat
open Go Go.Vx R Go.Proofs.Tryz
set_option maxRecDepth 100000
structure Ln where
 r:Int
 k:aiZ
 v:List bK
variable {U:Type}{b:Mp aiZ}{W:List (Pl×U)}{bs:aj0}{p:Pl}{seen:aj0}{r:Int}{st:bW}
@[go_sem] def Ln.row (x:Ln):List V:= [.int .i64 x.r,.str x.k,.sl .ro (x.v.map bK.row)]
def Ln.at (x:Ln):Pl:=(x.r,x.k)
def xY (a b:Pl):Bool:=decide (a.1<b.1)||(decide (a.1=b.1)&&Op.bytesLess a.2 b.2)
theorem Ls (a:Pl):xY a a=false:=by simp[xY,Lk]
theorem It {a b c:Pl} (h:xY a b) (g:xY b c):xY a c=true:=by
 simp only[xY,Ce,Ab,aiA]at h g⊢
 rcases h with h|⟨h,h'⟩<;>rcases g with g|⟨g,g'⟩
 .exact .inl om
 .exact .inl om
 .exact .inl om
 .exact .inr ⟨om,Iq _ _ _ h' g'⟩
theorem Iu (a b:Pl):xY a b=true\/a=b\/xY b a=true:=by
 simp only[xY,Ce,Ab,aiA]
 rcases aiW a.1 b.1 with h|h|h
 .exact .inl (.inl h)
 .rcases OS a.2 b.2 with g|g|g
  .exact .inl (.inr ⟨h,g⟩)
  .exact .inr (.inl (Prod.ext h g))
  .exact .inr (.inr (.inr ⟨h.symm,g⟩))
 .exact .inr (.inr (.inl h))
theorem Va {a b:Pl} (h:xY a b):xY b a=false:=by
 cases q:xY b a
 .rfl
 .have:=It h q;rw[Ls]at this;cases this
def iB (l:List Pl):Prop:=l.Pairwise λa b=>xY a b=true
def xo (l:List Ln) (x:Ln):List Ln:=l.takeWhile (λy=>xY y.at x.at)++x::l.dropWhile (λy=>xY y.at x.at)
def jF (l:List Ln) (p:Pl):Bool:=l.any λx=>x.at==p
def pq (t:Int) (st:bW) (x:Ln):Bool:=
 (wA t st).any (λg=>(xF t g).1==x.r)&&(!Op.bytesLess x.k (nR bO t st).1&&Op.bytesLess x.k (nR bO t st).2)
def ud (T:bL) (st:bW):List Ln->List Ln->List Ln×Int
 |acc,[]=>(acc,0)
 |acc,x::l=>if(gL T x.v st.cA).2≠0 then([],(gL T x.v st.cA).2)else ud T st (if Ey (gL T x.v st.cA).1=true then acc++ [x]else acc) l
def ga (t:Int) (T:bL) (st:bW) (l:List Ln):List Ln×Int:=
 if st.dO=true then ud T st [] (l.filter (pq t st))else(l.filter (pq t st),0)
def eC (T:bL) (row:List bK):List bJ->List bK->List bK×Int
 | [],acc=>(acc,0)
 |e::l,acc=>if(gL T row e).2≠0 then([],(gL T row e).2)else eC T row l (acc++ [(gL T row e).1])
def gJ (t:Nat) (T:bL):List (List bJ)->List Ln->List Ln×Int
 | [],l=>(l,0)
 |r::rs,l=>
  if(eC eQ [] r []).2≠0 then([],(eC eQ [] r []).2)
  else if(fm t T (eC eQ [] r []).1).2.2≠0 then([],(fm t T (eC eQ [] r []).1).2.2)
  else if jF l ((fm t T (eC eQ [] r []).1).1,(fm t T (eC eQ [] r []).1).2.1)=true then([],18)
  else gJ t T rs (xo l ⟨(fm t T (eC eQ [] r []).1).1,(fm t T (eC eQ [] r []).1).2.1,(eC eQ [] r []).1⟩)
def gz (T:bL) (oB:List bK):List cp->List bK->List bK×Int
 | [],row=>(row,0)
 |x::l,row=>if(gL T oB x.e).2≠0 then([],(gL T oB x.e).2)else gz T oB l (row.set (cV T x.name).toNat (gL T oB x.e).1)
def jB (l:List Ln) (p:Pl) (row:List bK):List Ln:=l.map λy=>if y.at=p then⟨y.r,y.k,row⟩else y
def gO (T:bL) (cD:List cp):List Ln->List Ln->List Ln×Int
 | [],l=>(l,0)
 |x::m,l=>
  if(gz T x.v cD x.v).2≠0 then([],(gz T x.v cD x.v).2)
  else if fe T.cm (gz T x.v cD x.v).1≠0 then([],fe T.cm (gz T x.v cD x.v).1)
  else gO T cD m (jB l x.at (gz T x.v cD x.v).1)
def jU:List Ln->List Ln->List Ln
 | [],l=>l
 |x::m,l=>jU m (l.filter λy=> !decide (y.at=x.at))
def BC (items:List cP):Bool:=items.any λx=>x.kind==3||x.kind==4
def ko (T:bL) (e:bJ):List Ln->bK->bK×Int
 | [],acc=>(acc,0)
 |x::l,acc=>
  if(gL T x.v e).2≠0 then(zeroV,(gL T x.v e).2)
  else if(gL T x.v e).1.kind=0 then ko T e l acc
  else if(fj (acc.n+(gL T x.v e).1.n)).2≠0 then(zeroV,(fj (acc.n+(gL T x.v e).1.n)).2)
  else ko T e l ⟨2,(fj (acc.n+(gL T x.v e).1.n)).1,[]⟩
def ri (T:bL) (l:List Ln):List cP->List bK->List bK×Int
 | [],acc=>(acc,0)
 |x::xs,acc=>
  if x.kind=4 then(if(ko T x.e l zeroV).2≠0 then([],(ko T x.e l zeroV).2)else ri T l xs (acc++ [(ko T x.e l zeroV).1]))
  else ri T l xs (acc++ [⟨2,l.length,[]⟩])
def Iv (gt:Ln->Bool) (out:List Ln) (x:Ln):List Ln:=(out.reverse.dropWhile gt).reverse++x::(out.reverse.takeWhile gt).reverse
def rj (c:Nat) (down:Bool) (x y:Ln):Int:=if down=true then -(jA (x.v.getD c zeroV) (y.v.getD c zeroV))else jA (x.v.getD c zeroV) (y.v.getD c zeroV)
def pt (c:Nat) (down:Bool) (l:List Ln):List Ln:=l.foldl (λout x=>Iv (λy=>decide (0<rj c down y x)) out x) []
def lD (bT:Int) (l:List Ln):List Ln:=if 0<=bT then l.take bT.toNat else l
def pv (T:bL) (items:List cP):List Ln->List (List bK)->List (List bK)×Int
 | [],acc=>(acc,0)
 |x::l,acc=>
  if(items.head?.map (·.kind))=some 1 then pv T items l (acc++ [x.v])
  else if(eC T x.v (items.map (·.e)) []).2≠0 then([],(eC T x.v (items.map (·.e)) []).2)
  else pv T items l (acc++ [(eC T x.v (items.map (·.e)) []).1])
structure Ot where
 count:Int
 rows:List (List bK)
def Ot.row (x:Ot):List V:= [.sl .ro (x.rows.map λr=> [.sl .ro (r.map bK.row)]),.int .i64 x.count]
def lE (T:bL) (st:bW) (l:List Ln):Ot×Int:=
 if BC st.items=true then(if(ri T l st.items []).2≠0 then(⟨0,[]⟩,(ri T l st.items []).2)else(⟨0,[(ri T l st.items []).1]⟩,0))
 else
  let m:=lD st.bT (if 0<=cV T st.order then pt (cV T st.order).toNat st.down l else l)
  if(pv T st.items m []).2≠0 then(⟨0,[]⟩,(pv T st.items m []).2)else(⟨0,(pv T st.items m []).1⟩,0)
def k9 (st:bW) (l:List Ln):Ot×List Ln×Int:=
 let t:=(xK st.table).toNat
 let T:=bO.getD t eQ
 if st.kind=2 then(if(gJ t T st.rows l).2≠0 then(⟨0,[]⟩,[],(gJ t T st.rows l).2)else(⟨st.rows.length,[]⟩,(gJ t T st.rows l).1,0))
 else if(ga t T st l).2≠0 then(⟨0,[]⟩,[],(ga t T st l).2)
 else if st.kind=1 then((lE T st (ga t T st l).1).1,l,(lE T st (ga t T st l).1).2)
 else if st.kind=3 then
  (if(gO T st.cD (ga t T st l).1 l).2≠0 then(⟨0,[]⟩,[],(gO T st.cD (ga t T st l).1 l).2)else(⟨(ga t T st l).1.length,[]⟩,(gO T st.cD (ga t T st l).1 l).1,0))
 else(⟨(ga t T st l).1.length,[]⟩,jU (ga t T st l).1 l,0)
def lF:List bW->Nat->List Ot->List Ln->(Int×Int×List Ot)×List Ln
 | [],_,acc,l=>((0,0,acc),l)
 |x::ss,i,acc,l=>if(k9 x l).2.2≠0 then(((k9 x l).2.2,(i:Int),[]),[])else lF ss (i+1) (acc++ [(k9 x l).1]) (k9 x l).2.1
def fD (cR:dU) (l:List Ln):(Int×Int×List Ot)×List Ln:=
 if(oA cR).2≠0 then(((oA cR).2,(oA cR).1,[]),l)else if(lF cR.stmts 0 [] l).1.1≠0 then((lF cR.stmts 0 [] l).1,l)else lF cR.stmts 0 [] l
structure Wr where
 p:Pl
 drop:Bool
 data:aiZ
def kW (l:List Wr) (w:Wr):List Wr:=l.takeWhile (λy=>xY y.p w.p)++w::l.dropWhile (λy=>xY y.p w.p)
def jg (pZ now:List Ln):List Wr:=
 (now.filter λx=> !(pZ.any λy=>decide (y.at=x.at)&&decide (xL y.v=xL x.v))).foldl (λl x=>kW l ⟨x.at,false,xL x.v⟩)
  ((pZ.filter λx=> !jF now x.at).foldl (λl x=>kW l ⟨x.at,true,[]⟩) [])
theorem Gu {cm:List fw} {row:List bK} (hc:cm.length<=20) (hv: ∀v∈row,v.ok) (h:fe cm row=0):jb row:=by
 have hl:=xk h
 refine⟨om,λv aa=> ?_,hv⟩
 rcases OU (UL h v aa)with ⟨_,_,h3⟩|⟨_,_,h3⟩|⟨_,h3⟩|⟨_,_,h3⟩
 all_goals grind
theorem xv2 (tn:Nat) (T:bL) (hT:bO[tn]? =some T) (row:List bK):tX 3 tn T row (xF tn)=fm tn T row:=by
 unfold tX fm
 by_cases h:fe T.cm row≠0
 .rw[aiv h,aiv h]
 .rw[aiu h,aiu h]
  have hl:=xk (Classical.not_not.1 h)
  have e0:row.headD v0=row.getD 0 zeroV:=by cases row<;>rfl
  rw[e0]
  have ev:v0=zeroV:=rfl
  rw[ev]
  obtain⟨aa,ab⟩:=A4.1 hT
  have h3:tn<3:=aa
  unfold Gt xF
  generalize row.getD 0 zeroV=x
  match tn,h3 with
  |0,_=>
   have hp:T.place=0:=by cases hT;decide
   simp only[hp,aiE,true_and]
   by_cases q0:x.n=0
   .simp[q0,show min (max (0:Int) (-1)) 4=0 by decide]
   .by_cases q1:x.n=1
    .simp[q1,show min (max (1:Int) (-1)) 4=1 by decide]
    .have n0: ¬min (max x.n (-1)) 4=0:=om
     have n1: ¬min (max x.n (-1)) 4=1:=om
     simp[q0,q1,n0,n1]
  |1,_=>
   have hp: ¬T.place=0:=by cases hT;decide
   simp
  |2,_=>
   have hp: ¬T.place=0:=by cases hT;decide
   simp
theorem Vb (tn:Nat) (T:bL) (hT:bO[tn]? =some T) (row:List bK) (hr:row.length<=maxLen) (hv: ∀v∈row,v.ok):Pure prog 104 [dJ bO,.int .i64 tn,.sl .ro (row.map bK.row)] (tY (fm tn T row)):=by
 obtain⟨aa,ab⟩:=A4.1 hT
 have hk:=(by decide: ∀T∈bO,0<=T.key/\T.key<T.cm.length/\T.cm.length<=20) T (by grind)
 rw[<-xv2 tn T hT row]
 exact xB8 xJ bO tn aa T ab row hr (Gu hk.2.2 hv) dC om (xF tn) λr h1 h2 h3=>by
  have ad:tn<3:=aa
  exact H5 tn r om om
def fQ:Ob:= .box [.sl .ro xJ,.sl .ro (bO.map bL.row),.mp 0,.mp 1,.mp 2]
def dp (a b:Mp aiZ) (c:Mp Int):St:= [a.ob .str,b.ob .str,c.ob (V.int .i64),fQ]
theorem Vc {U:Type} {g:U->V} (hg: ∀v,jn 0 (g v)) (n:Nat): ∀W:List (Pl×U),(gx g W).all (jn n)=true
 | []=>rfl
 |e::W=>by
  rw[gx,Bl,Bl,Vc hg n W,Rw om (hg e.2)]
  rfl
theorem Vd {g:U->V} (hg: ∀v,jn 0 (g v)) (n:Nat) (m:Mp U):bS n (m.ob g)=true:=Vc hg n m.W
theorem wC (n:Nat) (h:3<=n) (a b:Mp aiZ) (c:Mp Int):(dp a b c).all (bS n)=true:=by
 have h0:decide (0<n)=true:=(by grind)
 have h1:decide (1<n)=true:=(by grind)
 have h2:decide (2<n)=true:=(by grind)
 simp only[dp,Bl,D4,Db,Vd (g:=V.str) (λ_=>rfl),Vd (g:=V.int .i64) (λ_=>rfl),B7]
 simp_all[fQ,bS,cN,cL]
def lG (c:Mp Int) (p:Pl):Int:=(c.get p).getD 0
def l7 (dy:Int) (key data:aiZ):Bool:=
 decide ((fC dy).2.2=0)&&(decide ((dZ bO (fC dy).1 data).2=0)&&decide (fm (fC dy).1.toNat (bO.getD (fC dy).1.toNat eQ) (dZ bO (fC dy).1 data).1=(dy,key,0)))
def rk (m:Mp aiZ×Mp aiZ×Mp Int):St:=dp m.1 m.2.1 m.2.2
abbrev M3:=Mp aiZ×Mp aiZ×Mp Int
def BD (p:Pl) (data:aiZ) (m:M3):M3:=
 if lG m.2.2 p=0/\l7 p.1 p.2 data=true then(m.1.put p data,m.2.1.put p data,m.2.2.put p (lG m.2.2 p+1))else(m.1,m.2.1,m.2.2.put p (lG m.2.2 p+1))
theorem xU6 {u:Nat} (h:u<18446744073709551616): -9223372036854775808<=kO u/\kO u<=9223372036854775807:=by
 grind[kO]
theorem Ve:(v0:bK).ok:=⟨dC,dC,dC⟩
theorem O2 {k n:Int} {s:aiZ} (h1: -9223372036854775808<=k/\k<=9223372036854775807) (h2: -9223372036854775808<=n/\n<=9223372036854775807) (h3:s.length<=maxLen):(bK.mk k n s).ok:=⟨h1,h2,h3⟩
theorem xA2: ∀b:aiZ,(lA b).v.ok
 | []=>Ve
 |c::rest=>by
  grind[lA,pe,Ve,ve,O2,xU6,KU,maxLen]
theorem Vf: ∀(n:Nat) (b:aiZ) (l:List bK),iA n b=some l->l.length=n/\ ∀v∈l,v.ok
 |0,b,l,h=>by
  rw[iA]at h
  grind
 |n+1,b,l,h=>by
  rw[iA]at h
  split at h
  .rw[Av]at h
   obtain⟨l',h1,rfl⟩:=h
   obtain⟨h2,h3⟩:=Vf n _ l' h1
   refine⟨by grind,λv hv=> ?_⟩
   rcases Ae.1 hv with rfl|hv
   all_goals grind[xA2]
  grind
theorem Vg (t:Nat) (data:aiZ):(dZ bO t data).1.length<=maxLen/\ ∀v∈(dZ bO t data).1,v.ok:=by
 have h0:([]:List bK).length<=maxLen/\ ∀v∈([]:List bK),v.ok:=sm
 unfold dZ
 split
 .rename_i h
  have hc:=(by decide: ∀T∈bO,T.cm.length<=maxLen) (bO[(t:Int).toNat]'om) sm
  unfold R.jR
  split
  .unfold tL
   grind[Vf]
  omega
 omega
theorem wp7 (g:Nat) (hg:g<1000) (key data:aiZ) (hd:data.length<=cG) (a b:Mp aiZ) (sn:Mp Int) (ha:a.ok) (ai:b.ok) (hs:sn.ok) (a1:sn.at (g,key)=none->a.at (g,key)=none/\b.at (g,key)=none) (av: ∀i v,sn.at (g,key)=some (i,v)->1<=v/\v<=1000000):
  bN prog 58 [.ptr 3 0,.int .i64 g,.agg [.str key,.str data]] (dp a b sn) (λr s=>r= .cy []/\s=rk (BD (g,key) data (a,b,sn))):=by
 obtain⟨M,hM⟩:=eX (BD (g,key) data (a,b,sn))
 rw[hM]
 have ret: ∀(a' b':Mp aiZ) (aj:Mp Int) (Il:St),M=(a',b',aj)->cx (some (.cy [])) 4 (λr s=>r= .cy []/\s=rk M) (a'.ob .str::b'.ob .str::aj.ob (V.int .i64):: .box [.sl .ro xJ,.sl .ro (bO.map bL.row),.mp 0,.mp 1,.mp 2]::Il):=λa' b' aj Il h=>by
  subst h
  exact yZ 4 rfl rfl (wC 4 dC a' b' aj) om (zC rfl) (by trivial)
 have a6:=H6 g hg
 refine iV 4 func58 ntmps58 results58 λc hc hb=> ?_
 refine zA ?_
 simp[go_sem,dp,fQ]
 refine pC a6 ?_
 simp[go_sem,Gf]
 obtain⟨ob,ao⟩: ∃ob:Ob->R,ob=λo=>xZ (some (ua,.int .i64 0)) [o] (.mp 0) (ia (g,key)) false:=⟨_,rfl⟩
 obtain⟨k1,aw⟩:=eX (lG sn (g,key))
 cases aa:sn.at (g,key)with
 |none=>
  have ad:=Mp.get_none aa
  have ae:k1=0:=by rw[<-aw];unfold lG;grind
  subst ae
  refine Ny [(5,1),(7,3)] ⟨0,6,[2],some (2,ob)⟩ sm (by rfl) kR ?_
  simp[go_sem]
  refine RW (kv:=ia (g,key)) (id:=2) (n0:=⟨0,6,[2],some (2,ob)⟩) (by rfl) (by rfl) Tryz.pT ao rfl sm (Lo (m:=sn) rfl (g,key) false) ?_
  simp[go_sem,ad]
  refine Kh ?_ ?_
  .simp[go_sem,U7 hs aa]
   refine⟨sm,λ_=> .inr ?_⟩
   exact Kp.zp (k:=⟨0,6,[2],some (2,ob)⟩) (I:= [a.ob .str,b.ob .str,sn.ob (V.int .i64),fQ,.box [.str key,.str data],.box [.int .i64 g,.str key]]) (id:=2) (o:=sn.ob (V.int .i64)) (o':=(sn.mJ (g,key) 0).ob (V.int .i64)) rfl rfl (λq hq _=>by cases hq;rw[ao];first|done|exact xF6 rfl aa)
  simp[go_sem,U7 hs aa,U9 hs]
  obtain⟨i1,aq⟩:=Mp.uc sn (g,key) 1
  by_cases he:(fC g).2.2=0
  rotate_left
  .have ab:((fC g).2.2 !=0)=true:=by grind
   refine yE [] 6 sm (by rfl) kR ?_
   simp[go_sem,ab]
   exact ret a b _ _ (by grind[BD,l7])
  have ab:((fC g).2.2 !=0)=false:=by grind
  have e1:(sn.put (g,key) 1).ob (V.int .i64)= .mp (gx (V.int .i64) (sn.put (g,key) 1).W) (sn.put (g,key) 1).bs (sn.put (g,key) 1).cZ:=rfl
  refine yE [] 6 sm (by rfl) kR ?_
  simp[go_sem,ab,e1,po,aq,lp,lQ]
  rw[<-e1]
  obtain⟨ax,ay⟩:=a1 aa
  obtain⟨tn,T,a7,hT⟩: ∃(tn:Nat) (T:bL),(fC g).1=(tn:Int)/\bO[tn]? =some T:=by
   unfold fC at he⊢
   split at he<;>rename_i q0
   .rw[aiv q0];exact⟨0,_,rfl,rfl⟩
   .rw[aiu q0]
    split at he<;>rename_i q1
    .rw[aiv q1];exact⟨0,_,rfl,rfl⟩
    .rw[aiu q1]
     split at he<;>rename_i q2
     .rw[aiv q2];exact⟨1,_,rfl,rfl⟩
     .rw[aiu q2]
      split at he<;>rename_i q3
      .rw[aiv q3];exact⟨2,_,rfl,rfl⟩
      grind
  have aE:bO.getD tn eQ=T:=by grind
  have al:=Ti xJ bO tn data hd dC
  have af:=Vg tn data
  obtain⟨rf,a8⟩:=eX (dZ bO tn data)
  rw[a8]at al af
  have an:=Vb tn T hT rf.1 af.1 af.2
  obtain⟨ks,aA⟩:=eX (fm tn T rf.1)
  rw[aA]at an
  have aB:l7 g key data=(decide (rf.2=0)&&decide (ks=(((g:Nat):Int),key,0))):=by
   grind[l7]
  have aC:M=if l7 g key data=true then(a.put (g,key) data,b.put (g,key) data,sn.put (g,key) 1)else(a,b,sn.put (g,key) 1):=by
   grind[BD]
  rw[aB]at aC
  obtain⟨kr,kk,ke⟩:=ks
  refine zA ?_
  refine yE [(7,0)] 6 sm (by rfl) kR ?_
  simp[go_sem,a7]
  refine pD al ?_
  simp[go_sem,eH]
  by_cases r0:rf.2=0
  rotate_left
  .have ar:(rf.2 !=0)=true:=by grind
   simp[go_sem,ar]
   exact ret a b _ _ (by grind)
  have ar:(rf.2 !=0)=false:=by grind
  simp[go_sem,ar]
  refine pC an ?_
  simp[go_sem,tY]
  by_cases k0:ke=0
  rotate_left
  .have ah:(ke==0)=false:=by grind
   simp[go_sem,ah]
   exact ret a b _ _ (by grind)
  have ah:(ke==0)=true:=by grind
  by_cases k2:kr=((g:Nat):Int)
  rotate_left
  .have ak:(kr==((g:Nat):Int))=false:=by grind
   simp[go_sem,ah,ak]
   exact ret a b _ _ (by grind)
  have ak:(kr==((g:Nat):Int))=true:=by grind
  by_cases k3:kk=key
  rotate_left
  .have au:(kk==key)=false:=by grind
   simp[go_sem,ah,ak,au]
   exact ret a b _ _ (by grind)
  have au:(kk==key)=true:=by grind
  simp[go_sem,ah,ak,au]
  refine Ny [(14,3),(16,3),(17,3),(19,3)] ⟨0,6,[0,1],none⟩ sm (by rfl) kR ?_
  simp[go_sem]
  have keep: ∀(τ:St) (i:Nat) (o o':Ob),([0,1]:aj0).contains i=true->τ[i]? =some o->Kp.of ⟨0,6,[0,1],none⟩ (τ.set i o')=Kp.of ⟨0,6,[0,1],none⟩ τ:=(by grind[Kp.zp])
  refine Kh ?_ ?_
  .simp[go_sem,Lq ha ax]
   refine⟨sm,λ_=> .inr ?_⟩
   rfl
  simp[go_sem,Lq ha ax]
  refine RU ?_ ?_
  .simp[go_sem,Lr ha]
   refine⟨sm,λ_=> .inr ?_⟩
   rfl
  simp[go_sem,Lr ha]
  refine Kh ?_ ?_
  .simp[go_sem,Lq ai ay]
   refine⟨sm,λ_=> .inr ?_⟩
   rfl
  simp[go_sem,Lq ai ay]
  refine RU ?_ ?_
  .simp[go_sem,Lr ai]
   refine⟨sm,λ_=> .inr ?_⟩
   rfl
  simp[go_sem,Lr ai]
  exact ret (a.put (g,key) data) (b.put (g,key) data) _ _ (by grind)
 |some q=>
  obtain⟨i,v⟩:=q
  obtain⟨aF,aG⟩:=av i v aa
  have ad:=Mp.get_some aa
  have ae:k1=v:=by rw[<-aw];unfold lG;grind
  subst ae
  have aD:IntKind.i64.wrap (k1+1)=k1+1:=(by grind[bX])
  have az:M=(a,b,sn.put (g,key) (k1+1)):=by
   rw[<-hM];unfold BD;grind
  refine Ny [(5,1),(7,3)] ⟨0,6,[2],some (2,ob)⟩ sm (by rfl) kR ?_
  simp[go_sem]
  refine RW (kv:=ia (g,key)) (id:=2) (n0:=⟨0,6,[2],some (2,ob)⟩) (by rfl) (by rfl) Tryz.pT ao rfl sm (Lo (m:=sn) rfl (g,key) false) ?_
  simp[go_sem,ad,aD]
  refine Kh ?_ ?_
  .simp[go_sem,U8 hs aa]
   trivial
  simp[go_sem,U8 hs aa,yz6 hs aa]
  obtain⟨i1,aq⟩:=Mp.uc sn (g,key) (k1+1)
  by_cases he:(fC g).2.2=0
  rotate_left
  .have ab:((fC g).2.2 !=0)=true:=by grind
   refine yE [] 6 sm (by rfl) kR ?_
   simp[go_sem,ab]
   exact ret a b _ _ az
  have ab:((fC g).2.2 !=0)=false:=by grind
  have e1:(sn.put (g,key) (k1+1)).ob (V.int .i64)= .mp (gx (V.int .i64) (sn.put (g,key) (k1+1)).W) (sn.put (g,key) (k1+1)).bs (sn.put (g,key) (k1+1)).cZ:=rfl
  have h1:decide (k1+1>1)=true:=(by grind)
  have aH:decide (1<k1+1)=true:=om
  refine yE [] 6 sm (by rfl) kR ?_
  simp[go_sem,ab,e1,po,aq,lp,lQ,h1]
  exact ret a b _ _ az
structure fM (x:Ln):Prop where
 jD: ∃(tn:Nat) (T:bL),(fC x.r).1=(tn:Int)/\bO[tn]? =some T/\fe T.cm x.v=0
 err:(fC x.r).2.2=0
 ok: ∀v∈x.v,v.ok
structure cO (b:Mp aiZ) (l:List Ln):Prop where
 ok:b.ok
 jh:iB (l.map Ln.at)
 perm:b.W.Perm (l.map λx=>(x.at,xL x.v))
 rows: ∀x∈l,fM x
theorem iB.nodup {l:List Pl} (h:iB l):l.Nodup:=h.imp (by grind[Ls])
theorem BE (l:List Ln) (x:Ln):(xo l x).Perm (x::l):=by
 grind[xo,Cm,Df]
theorem gb {l:List Ln}:jF l p=true↔p∈l.map Ln.at:=by
 grind[jF]
theorem Vh {p:Pl}: ∀{l:List Ln},iB (l.map Ln.at)->p∉l.map Ln.at-> ∀y∈l.dropWhile (λy=>xY y.at p),xY p y.at=true
 | [],_,_,y,hy=>by simp_all
 |z::l,hr,hn,y,hy=>by
  unfold iB at hr
  rw[Aj,Cg]at hr
  rw[List.dropWhile_cons]at hy
  by_cases q:xY z.at p=true
  .rw[aiv q]at hy
   exact Vh (l:=l) hr.2 (by grind) y hy
  .rw[aiu q]at hy
   have hz:xY p z.at:=by
    grind[Iu]
   rcases Ae.1 hy with rfl|hy
   .exact hz
   .exact It hz (by grind)
theorem O3 {U:Type} {p:U->Bool}: ∀{l:List U},∀y∈l.takeWhile p,p y=true
 | [],y,hy=>by simp_all
 |z::l,y,hy=>by
  rw[List.takeWhile_cons]at hy
  by_cases q:p z=true
  .rw[aiv q]at hy
   rcases Ae.1 hy with rfl|hy
   .exact q
   .exact O3 (l:=l) y hy
  grind
theorem xh4 {l:List Ln} {x:Ln} (h:iB (l.map Ln.at)) (hn:jF l x.at=false):iB ((xo l x).map Ln.at):=by
 have aa:x.at∉l.map Ln.at:=λq=>by rw[gb.2 q]at hn;cases hn
 have hd:=Vh h aa
 have ht: ∀y∈l.takeWhile (λy:Ln=>xY y.at x.at),xY y.at x.at=true:=O3
 have hl:=Cm (p:=λy:Ln=>xY y.at x.at) (l:=l)
 unfold xo
 rw[<-hl]at h
 revert hd ht h
 generalize l.takeWhile (λy:Ln=>xY y.at x.at)=t
 generalize l.dropWhile (λy:Ln=>xY y.at x.at)=d
 intro h hd ht
 unfold iB at h⊢
 rw[C9,Bs]at h
 rw[C9,Aj,Bs,Cg]
 grind
theorem cO.gR {l:List Ln} (h:cO b l):b.at p=none↔jF l p=false:=by
 constructor
 .intro q
  cases r:jF l p with
  |false=>rfl
  |true=>
   obtain⟨x,hx,he⟩:=Ac.1 (gb.1 r)
   have:(p,xL x.v)∈b.W:=h.perm.mem_iff.2 (by grind)
   exact absurd rfl (Lm q _ this)
 .intro q
  cases r:b.at p with
  |none=>rfl
  |some w=>
   have hm:(p,w.2)∈b.W:=Bk (xm (W:=b.W) (i:=w.1) (v:=w.2) r)
   obtain⟨x,hx,he⟩:=Ac.1 (h.perm.mem_iff.1 hm)
   have:x.at=p:=(by grind)
   rw[gb.2 (by grind)]at q
   cases q
theorem cO.ins {l:List Ln} (h:cO b l) {x:Ln} (hx:fM x) (hn:jF l x.at=false):cO (b.put x.at (xL x.v)) (xo l x):=by
 have hb:=h.gR.2 hn
 refine⟨Mp.jf h.ok _ _,xh4 h.jh hn, ?_,λy hy=> ?_⟩
 .have e:(b.put x.at (xL x.v)).W=b.W++ [(x.at,xL x.v)]:=by grind[Mp.put]
  rw[e]
  have h1:=((BE l x).map λx:Ln=>(x.at,xL x.v)).symm
  refine List.Perm.trans ?_ h1
  rw[Aj]
  exact(List.perm_append_singleton _ _).trans (h.perm.cons _)
 .rcases Ae.1 ((BE l x).mem_iff.1 hy)with rfl|hy
  .exact hx
  .exact h.rows y hy
theorem Lt: ∀(r:List bJ) (acc:List bK),(∀e∈r,ja e)->(∀v∈acc,v.ok)->(eC eQ [] r acc).2=0->(eC eQ [] r acc).1.length=acc.length+r.length/\ ∀v∈(eC eQ [] r acc).1,v.ok
 | [],acc,_,ha,_=>⟨rfl,ha⟩
 |e::r,acc,he,ha,h=>by
  rw[eC]at h⊢
  by_cases q:(gL eQ [] e).2=0
  .rw[aiu (λh=>h q)]at h⊢
   have hv:(gL eQ [] e).1.ok:=by
    have:=UF (he e sm) (by rw[<-OV];exact q)
    rw[OV]
    exact(UN this).1
   have ih:=Lt r (acc++ [(gL eQ [] e).1]) (λx hx=>he x (by simp[hx])) (λv aa=>by
    rcases Af.1 aa with h|h
    .exact ha v h
    .simp at h;subst h;exact hv) h
   exact⟨by rw[ih.1];simp;omega,ih.2⟩
  .rw[aiv q]at h;exact absurd h q
def dV:List V:= [.sl .full [],.int .i64 0]
def Iw (a:Mp aiZ) (sn:Mp Int) (O4:Int) (M:List Ln×Int) (r:V) (s:St):Prop:=
 ∃(b':Mp aiZ),s=dp a b' sn/\((M.2≠0/\r= .cy [.agg (Ot.row ⟨0,[]⟩),.int .i64 M.2])\/(M.2=0/\r= .cy [.agg (Ot.row ⟨O4,[]⟩),.int .i64 0]/\cO b' M.1))
theorem xO0 {k d:aiZ} (h:b.at (r,k)=none):Ob.mp (gx V.str b.W++ [.agg [.int .i64 r,.str k],.str d]) (b.bs++ [b.cZ]) (b.cZ+1)=(b.put (r,k) d).ob V.str:=by
 unfold Mp.put Mp.ob
 rw[h]
 show _=Ob.mp (gx V.str (b.W++ [((r,k),d)])) _ _
 rw[<-UY]
 rfl
theorem Lu (tn:Nat) (T:bL) (hT:bO[tn]? =some T) (row:List bK) (h:(fm tn T row).2.2=0):fe T.cm row=0/\(fC (fm tn T row).1).1=(tn:Int)/\(fC (fm tn T row).1).2.2=0:=by
 obtain⟨aa,_⟩:=A4.1 hT
 have h3:tn<3:=aa
 unfold fm at h⊢
 by_cases h1:fe T.cm row≠0
 .rw[aiv h1]at h;exact absurd h h1
 .rw[aiu h1]at h⊢
  refine⟨Classical.not_not.1 h1, ?_⟩
  unfold Gt
  generalize row.getD 0 zeroV=x at h⊢
  match tn,h3 with
  |0,_=>
   by_cases h2:x.n=0\/x.n=1
   .rw[aiu (λq=>q.2 h2)]
    rcases h2 with h2|h2
    .simp[xF,fC,h2]
    .simp[xF,fC,h2]
   .rw[aiv ⟨rfl,h2⟩]at h;cases h
  |1,_=>simp[xF,fC]
  |2,_=>simp[xF,fC]
theorem yR7 (tn:Nat) (T:bL) (hT:bO[tn]? =some T) (st:bW) (a6:kM st) (a b:Mp aiZ) (sn:Mp Int) (l:List Ln) (av:cO b l):
  bN prog 105 [.ptr 3 0,.int .i64 tn,.agg st.row] (dp a b sn) (Iw a sn st.rows.length (gJ tn T st.rows l)):=by
 obtain⟨R,hR⟩:=eX st.rows
 obtain⟨a7,aw⟩:=a6.rows
 rw[hR]at a7 aw⊢
 generalize hM:gJ tn T R l=M
 have bad: ∀(b':Mp aiZ) (e:Int) (Il:St),M.2=e->e≠0->cx (some (.cy [.agg [.sl .full [],.int .i64 0],.int .i64 e])) 4 (Iw a sn R.length M) (a.ob .str::b'.ob .str::sn.ob (V.int .i64):: .box [.sl .ro xJ,.sl .ro (bO.map bL.row),.mp 0,.mp 1,.mp 2]::Il):=λb' e Il h1 h2=>
  yZ 4 (s:=dp a b' sn) (r:= .cy [.agg (Ot.row ⟨0,[]⟩),.int .i64 e]) rfl rfl (wC 4 dC a b' sn) (A7 _) (yW ⟨wW ⟨zX,zF rfl,tV⟩,xV rfl,tV⟩) ⟨b',rfl,.inl ⟨by rw[h1];exact h2,by rw[h1]⟩⟩
 have ao: ∀(b':Mp aiZ) (n:Nat),6<=n->([a.ob .str,b'.ob .str,sn.ob (V.int .i64),.box [.sl .ro xJ,.sl .ro (bO.map bL.row),.mp 0,.mp 1,.mp 2],.box st.row,.box dV]:St).all (bS n)=true:=λb' n hn=>by
  have h:=wC n om a b' sn
  simp only[dp,fQ,Bl,D4,Db]at h⊢
  rw[Ab,Ab,Ab]at h⊢
  refine⟨h.1,h.2.1,h.2.2.1, ?_⟩
  rw[Ab]
  exact⟨h.2.2.2,by simp[bS,cN,cL,bW.row,dV]⟩
 have ak: ∀(b':Mp aiZ) (k:Nat),([a.ob .str,b'.ob .str,sn.ob (V.int .i64),.box [.sl .ro xJ,.sl .ro (bO.map bL.row),.mp 0,.mp 1,.mp 2],.box st.row,.box dV,.app k 3]:St).all (bS 7)=true:=λb' k=>by
  have h:=ao b' 7 dC
  simp only[Bl,D4,Db]at h⊢
  rw[show bS 7 (.app k 3)=true from rfl,Db]
  exact h
 refine iV 4 func105 ntmps105 results105 λc hc hb=> ?_
 refine zA ?_
 simp[go_sem,dp,fQ,hR]
 refine zH (S:=Nat×Mp aiZ×List Ln) [0,1,5,6,22,23,24] (λu=> [.ptr 3 0,.int .i64 tn,.ptr 4 0,.ptr 5 0,.sl .ro (R.map λ(l:List bJ)=> [V.sl .ro (l.map bJ.row)]),.int .i64 R.length,.int .i64 u.1])
  (λu=> [a.ob .str,u.2.1.ob .str,sn.ob (V.int .i64),.box [.sl .ro xJ,.sl .ro (bO.map bL.row),.mp 0,.mp 1,.mp 2],.box st.row,.box dV]) (λu=>R.length - u.1)
  (λu=>u.1<=R.length/\cO u.2.1 u.2.2/\gJ tn T (R.drop u.1) u.2.2=M) hc hb (0,b,l) ⟨A3 _,av,hM⟩ ?_ ?_
 .exact cc 6 (by simp[go_sem,hR,dV]) rfl (ao b 6 dC) dC (zD sg rfl)
 rintro⟨i,b1,l1⟩ ⟨hi,af,aa⟩
 simp only at hi af aa
 by_cases q:i<R.length
 rotate_left
 .rw[A9 om,gJ]at aa
  subst aa
  refine zA ?_
  simp[go_sem,q,hR,dV]
  exact yZ 4 (s:=dp a b1 sn) (r:= .cy [.agg (Ot.row ⟨R.length,[]⟩),.int .i64 0]) rfl rfl (wC 4 dC a b1 sn) (A7 _) (yW ⟨wW ⟨zX,zF rfl,tV⟩,xV rfl,tV⟩) ⟨b1,rfl,.inr ⟨rfl,rfl,af⟩⟩
 have ei:=zQ q om
 obtain⟨x,hx⟩:=eX (R[i])
 obtain⟨aG,ax⟩:=aw x (hx▸A8 q)
 have ay:=Lt x [] ax (λv hv=>by cases hv)
 rw[A5 q,hx,gJ]at aa
 obtain⟨E,hE⟩:=eX (eC eQ [] x [])
 rw[hE]at aa ay
 refine zA ?_
 simp[go_sem,q,hx]
 refine lU 10 3 dC sg ?_
 refine zH (S:=Nat×List bK) [0,1,5,6,10,22,23,24,28,29,30] (λu=> [.ptr 3 0,.int .i64 tn,.ptr 4 0,.ptr 5 0,.sl (.app 6) (u.2.map bK.row),.sl .ro (R.map λ(l:List bJ)=> [V.sl .ro (l.map bJ.row)]),.int .i64 R.length,.int .i64 i,.sl .ro (x.map bJ.row),.int .i64 x.length,.int .i64 u.1])
  (λu=> [a.ob .str,b1.ob .str,sn.ob (V.int .i64),.box [.sl .ro xJ,.sl .ro (bO.map bL.row),.mp 0,.mp 1,.mp 2],.box st.row,.box dV,.app u.2.length 3]) (λu=>x.length - u.1)
  (λu=>u.1<=x.length/\u.2.length<=u.1/\eC eQ [] (x.drop u.1) u.2=E) hc hb (0,[]) ⟨A3 _,A7 _,hE⟩ ?_ ?_
 .exact cc 7 (by simp[go_sem,dV]) rfl (ak b1 _) dC (zD sg rfl)
 rintro⟨j,acc⟩ ⟨hj,a8,ab⟩
 simp only at hj a8 ab
 by_cases qj:j<x.length
 .have ej:=zQ qj om
  obtain⟨e,he⟩:=eX (x[j])
  have aA:=ax e (he▸A8 qj)
  rw[A5 qj,he,eC,OV]at ab
  have ah:=OR e aA
  obtain⟨kv,aB⟩:=eX (kD e)
  rw[aB]at ab ah
  refine zA ?_
  simp[go_sem,qj,he]
  refine zL ah cB ⟨wN ⟨zF rfl,zX,zF rfl,zF rfl,zF rfl,zX,zX,zX,zF rfl,zF rfl,zF rfl,tV⟩,zK,zP sg (by rw[bJ.bQ];rfl)⟩ rfl ?_
  simp[go_sem,fk]
  by_cases q2:kv.2=0
  rotate_left
  .have aq:(kv.2 !=0)=true:=sU q2
   rw[aiv q2]at ab
   subst ab
   simp only at aa
   rw[aiv q2]at aa
   simp[go_sem,aq,dV]
   exact bad b1 kv.2 _ (by rw[<-aa]) q2
  have aq:(kv.2 !=0)=false:=sU q2
  rw[aiu (λh=>h q2)]at ab
  simp[go_sem,aq]
  refine zJ ⟨om,zY rfl⟩ ?_
  simp[go_sem,ej]
  exact zI (j+1,acc++ [kv.1]) ⟨by show x.length - (j+1)<x.length - j;omega,⟨qj,by show(acc++ [kv.1]).length<=j+1;simp;omega,ab⟩,cc 7 (by simp[go_sem,dV]) rfl (ak b1 _) dC (zD sg rfl)⟩
 rw[A9 om,eC]at ab
 subst ab
 obtain⟨_,aj⟩:=ay rfl
 simp only at aa aj
 rw[aiu (λh=>h rfl)]at aa
 have al:=Vb tn T hT acc (by unfold maxLen;omega) aj
 have ai:=Lu tn T hT acc
 obtain⟨⟨kr,kk,ke⟩,aC⟩: ∃ks,fm tn T acc=ks:=⟨_,rfl⟩
 rw[aC]at aa al ai
 simp only at aa ai
 refine zA ?_
 simp[go_sem,qj]
 refine pC al ?_
 simp[go_sem,tY]
 by_cases k0:ke=0
 rotate_left
 .have ar:(ke !=0)=true:=sU k0
  rw[aiv k0]at aa
  simp[go_sem,ar,dV]
  exact bad b1 ke _ (by rw[<-aa]) k0
 have ar:(ke !=0)=false:=sU k0
 rw[aiu (λh=>h k0)]at aa
 obtain⟨an,aD,aE⟩:=ai k0
 have aF:=Gu ((by decide: ∀T∈bO,T.cm.length<=20) T (Bk hT)) aj an
 have au:=Td acc aF
 have eB:b1.ob .str= .mp (gx .str b1.W) b1.bs b1.cZ:=rfl
 simp[go_sem,ar]
 cases ae:b1.at (kr,kk)with
 |some w=>
  have hA:jF l1 (kr,kk)=true:=by
   cases r:jF l1 (kr,kk)with
   |true=>rfl
   |false=>rw[af.gR.2 r]at ae;cases ae
  rw[aiv hA]at aa
  have ad:dP (kr,kk) b1.W=some w:=ae
  refine yE [] 8 sm kR kR ?_
  simp[go_sem,eB,po,ad,lp,lQ,dV]
  rw[<-eB]
  exact bad b1 18 _ (by rw[<-aa]) dC
 |none=>
  have hA:=af.gR.1 ae
  rw[aiu (by rw[hA];decide)]at aa
  have ad:dP (kr,kk) b1.W=none:=ae
  have az:=xO0 (d:=xL acc) ae
  have a1:=af.ins (x:=⟨kr,kk,acc⟩) ⟨⟨tn,T,aD,hT,an⟩,aE,aj⟩ hA
  refine yE [] 8 sm kR kR ?_
  simp[go_sem,eB,po,ad,lp,lQ]
  refine zA ?_
  refine yE [(6,0)] 8 sm kR kR ?_
  simp[go_sem]
  refine pD au ?_
  simp[go_sem,po,ad,lp,lQ,az,ei]
  exact zI (i+1,b1.put (kr,kk) (xL acc),xo l1 ⟨kr,kk,acc⟩) ⟨by show R.length - (i+1)<R.length - i;omega,⟨q,a1,aa⟩,cc 6 (by simp[go_sem,dV]) rfl (ao _ 6 dC) dC (zD sg rfl)⟩
theorem Vi (l:List bK) (hl:l.length<=10000) (hz:l≠ []):bN prog 95 [.sl .ro (l.map bK.row)] [] (λr s=>r= .cM 0 3 l.length 0 l.length/\s= [.cj (l.map bK.row) 3]):=by
 refine iV 0 func95 ntmps95 results95 λc hc hb=> ?_
 refine uH 7 dC ?_
 refine zA ?_
 have hp:0<l.length:=by cases l with
  |nil=>exact absurd rfl hz
  |cons a l=>simp
 have hu:eI 3 (l.map bK.row):=by
  intro r hr
  obtain⟨v,_,rfl⟩:=Ac.1 hr
  rfl
 simp[go_sem,hp]
 refine zJ ⟨om,by simp[eI],hu⟩ ?_
 simp[go_sem]
 exact Hp sm ⟨rfl,rfl⟩
theorem Lv (T:bL) (hT:T.cm.length<=maxLen) (row:List bK) (hv: ∀v∈row,v.ok) (e:bJ) (he:ja e):Pure prog 152 [.agg T.row,.sl .ro (row.map bK.row),.agg e.row] (fk (gL T row e)):=by
 have ao:=K5 T hT e he
 have cQ:= @UM T row
 generalize hM:gL T row e=M
 unfold gL at hM
 have ret: ∀(v:bK) (e:Int) (I:St),(v,e)=M->cx (some (.cy [.agg v.row,.int .i64 e])) 0 (λr s=>r=fk M/\s= []) I:=λv e I h=>xj h
 refine iV 0 func152 ntmps152 results152 λc hc hb=> ?_
 refine zA ?_
 simp[go_sem]
 refine zL ao cB (zP sg (by rw[bJ.bQ];rfl)) rfl ?_
 simp[go_sem,wI]
 by_cases q:(iM T e).2=0
 rotate_left
 .have q':((iM T e).2 !=0)=true:=sU q
  rw[aiv q]at hM
  simp[go_sem,q']
  exact ret zeroV _ _ hM
 have q':((iM T e).2 !=0)=false:=sU q
 have n1: ¬(iM T e).2≠0:=λh=>h q
 rw[aiu n1]at hM
 by_cases hlen:row.length=T.cm.length
 rotate_left
 .have h1:((row.length:Int) !=T.cm.length)=true:=by simp;omega
  rw[aiv (by unfold Ez;rw[aiw hlen,Ds])]at hM
  simp[go_sem,q',h1]
  exact ret zeroV 9 _ hM
 have h1:((row.length:Int) !=T.cm.length)=false:=by simp;omega
 obtain⟨mr,aj⟩:=eX (Ez T.cm row)
 have aa:=aj
 unfold Ez at aa
 rw[aix hlen,B7]at aa
 rw[aj]at hM cQ
 simp[go_sem,q',h1]
 refine zH (S:=Nat×bK) [1,3,5,6,29,30,31] (λu=> [.sl .ro (row.map bK.row),.ptr 0 0,.ptr 1 0,.ptr 2 0,.sl .ro (row.map bK.row),.int .i64 row.length,.int .i64 u.1])
   (λu=> [.box T.row,.box e.row,.box u.2.row]) (λu=>row.length - u.1) (λu=>u.1<=row.length/\(((row.zip T.cm).drop u.1).all λp=>Ir p.1 p.2)=mr) hc hb (0,zeroV) ⟨A3 _,aa⟩ ?_ ?_
 .exact cc 3 (by simp[go_sem,zeroV]) rfl (by simp[bS,cN,cL,bJ.bQ,bL.row,bK.row]) (A3 _) (zD sg rfl)
 rintro⟨i,v0⟩ ⟨hi,hinv⟩
 simp only at hi hinv
 by_cases p:i<row.length
 rotate_left
 .rw[A9 (by rw[List.length_zip];omega)]at hinv
  have hm:mr:=hinv.symm
  rw[aiu (by rw[hm];decide)]at hM
  have ak:=cQ hm hv
  have ab:Pure prog 213 [.agg T.row,.sl .ro (row.map bK.row),.agg e.row] (fk (nX T row e)):=by
   unfold iM at q
   by_cases d:ij e<=64
   .rw[aiv d]at q;exact OQ ak hT 64 e d he.wide he.dS q
   .rw[aiu d]at q;cases q
  rw[hM]at ab
  refine zA ?_
  simp[go_sem,p]
  refine zL ab cB ⟨zC rfl,zK,xf e,tV⟩ rfl ?_
  simp[go_sem,fk]
  exact xj rfl
 have qc:i<T.cm.length:=om
 have ei:=zQ p (by unfold maxLen at hT;omega)
 obtain⟨v,al⟩:=eX (row[i])
 obtain⟨C,hC⟩:=eX (T.cm[i])
 have qz:i<(row.zip T.cm).length:=by rw[List.length_zip];omega
 rw[H9 _ _ _ qz,List.getElem_zip,al,hC]at hinv
 obtain⟨tl,af⟩: ∃tl,(((row.zip T.cm).drop (i+1)).all λp=>Ir p.1 p.2)=tl:=⟨_,rfl⟩
 rw[af]at hinv
 unfold Ir at hinv
 have an:=Gb v
 simp only at hinv
 generalize ez v=mv at an hinv
 refine zA ?_
 simp[go_sem,p,al]
 refine yE [(1,0)] 4 sm kR kR ?_
 simp[go_sem]
 refine pD an ?_
 refine(A6 mv).elim (λp2=> ?_) (λp2=> ?_)
 rotate_left
 .have hm:mr=false:=by rw[<-hinv,p2];simp
  rw[aiv hm]at hM
  simp[go_sem,p2]
  exact ret zeroV 9 _ hM
 rw[p2,B7]at hinv
 simp[go_sem,p2]
 by_cases k1:v.kind=C.kind
 .have ah:(v.kind !=C.kind)=false:=sU k1
  have ad:(v.kind==C.kind)=true:=sU k1
  rw[ad,aiY,B7]at hinv
  simp[go_sem,ah,qc,hC,ei]
  exact zI (i+1,v0) ⟨by show row.length - (i+1)<row.length - i;omega,⟨p,af.trans hinv⟩,cc 3 (by simp[go_sem,bJ.bQ]) rfl (by simp[bS,cN,cL,bJ.bQ]) dC (zD sg rfl)⟩
 have ah:(v.kind !=C.kind)=true:=sU k1
 have ad:(v.kind==C.kind)=false:=sU k1
 rw[ad,Bool.or_false]at hinv
 simp[go_sem,ah,qc,hC]
 by_cases k0:v.kind=0
 .have ai:(v.kind !=0)=false:=sU k0
  have ae:(v.kind==0)=true:=sU k0
  rw[ae,B7]at hinv
  simp[go_sem,ai,ei]
  exact zI (i+1,v0) ⟨by show row.length - (i+1)<row.length - i;omega,⟨p,af.trans hinv⟩,cc 3 (by simp[go_sem,bJ.bQ]) rfl (by simp[bS,cN,cL,bJ.bQ]) dC (zD sg rfl)⟩
 have ai:(v.kind !=0)=true:=sU k0
 have ae:(v.kind==0)=false:=sU k0
 rw[ae,Ds]at hinv
 rw[aiv hinv.symm]at hM
 simp[go_sem,ai]
 exact ret zeroV 9 _ hM
theorem Vj {T:bL} {row:List bK} (hv: ∀v∈row,v.ok) {e:bJ} (he:ja e) (h:(gL T row e).2=0):VK (gL T row e).1 (iM T e).1:=by
 unfold gL at h⊢
 by_cases q:(iM T e).2=0
 rotate_left
 .rw[aiv q]at h;exact absurd h q
 have n1: ¬(iM T e).2≠0:=λh=>h q
 rw[aiu n1]at h⊢
 cases hm:Ez T.cm row with
 |false=>rw[hm]at h;simp at h
 |true=>
  rw[hm]at h
  simp only[Bool.true_eq_false,aiL]at h⊢
  unfold iM at q⊢
  by_cases d:ij e<=64
  .rw[aiv d]at q⊢
   exact Lj (UM hm hv) 64 e d he.dS q h
  .rw[aiu d]at q;cases q
theorem wd6 (T:bL) (e:bJ) (x:Ln) (l:List Ln) (acc:bK):ko T e (x::l) acc=
  if(gL T x.v e).2≠0 then(zeroV,(gL T x.v e).2)
  else if(gL T x.v e).1.kind=0 then ko T e l acc
  else if(fj (acc.n+(gL T x.v e).1.n)).2≠0 then(zeroV,(fj (acc.n+(gL T x.v e).1.n)).2)
  else ko T e l ⟨2,(fj (acc.n+(gL T x.v e).1.n)).1,[]⟩:=rfl
theorem we2 (T:bL) (hT:T.cm.length<=maxLen) (e:bJ) (he:ja e) (l:List Ln) (hl:l.length<=10000) (cQ: ∀x∈l,∀v∈x.v,v.ok):bN prog 220 [.agg T.row,.agg e.row,.cM 0 3 l.length 0 l.length] [.cj (l.map Ln.row) 3] (λr s=>r=fk (ko T e l zeroV)/\s= [.cj (l.map Ln.row) 3]):=by
 generalize hM:ko T e l zeroV=M
 have ret: ∀(v:bK) (er:Int) (I:St),(v,er)=M->I.take 1= [.cj (l.map Ln.row) 3]->cx (some (.cy [.agg v.row,.int .i64 er])) 1 (λr s=>r=fk M/\s= [.cj (l.map Ln.row) 3]) I:=by
  rintro v er I rfl h
  exact yZ 1 h rfl (by simp[bS,cN,cL,Ln.row]) (A7 _) (zC rfl) ⟨rfl,rfl⟩
 refine iV 1 func220 ntmps220 results220 λc hc hb=> ?_
 refine zA ?_
 simp[go_sem]
 refine zH (S:=Nat×bK) [3,4,6,7,8,13,14,15] (λu=> [.ptr 1 0,.ptr 2 0,.ptr 3 0,.int .i64 0,.ptr 4 0,.cM 0 3 l.length 0 l.length,.int .i64 l.length,.int .i64 u.1])
  (λu=> [.cj (l.map Ln.row) 3,.box T.row,.box e.row,.box zeroV.row,.box u.2.row]) (λu=>l.length - u.1)
  (λu=>u.1<=l.length/\gv u.2.n/\u.2.s= []/\ko T e (l.drop u.1) u.2=M) hc hb (0,zeroV) ⟨A3 _,dC,rfl,hM⟩ ?_ ?_
 .exact cc 5 (by simp[go_sem,zeroV,bJ.bQ]) rfl (by simp[bS,cN,cL,bJ.bQ,bL.row,bK.row,Ln.row]) dC (zD sg rfl)
 rintro⟨i,acc⟩ ⟨hi,ha,has,hinv⟩
 simp only at hi ha has hinv
 by_cases q:i<l.length
 rotate_left
 .rw[A9 om]at hinv
  refine zA ?_
  simp[go_sem,q]
  exact ret acc 0 _ hinv rfl
 have ei:=zQ q om
 obtain⟨x,hx⟩:=eX (l[i])
 have aj:x∈l:=hx▸A8 q
 rw[A5 q,hx,wd6]at hinv
 have aa:=Lv T hT x.v (cQ x aj) e he
 have ad:=Vj (cQ x aj) (T:=T) he
 obtain⟨⟨v,er⟩,hv⟩: ∃kv,gL T x.v e=kv:=⟨_,rfl⟩
 rw[hv]at hinv aa ad
 simp only at hinv ad
 refine zA ?_
 simp[go_sem,q,hx]
 refine zL aa cB ⟨zC rfl,zK,xf e,tV⟩ rfl ?_
 simp[go_sem,fk]
 by_cases q2:er=0
 rotate_left
 .have ae:(er !=0)=true:=sU q2
  rw[aiv q2]at hinv
  simp[go_sem,ae]
  exact ret zeroV er _ hinv rfl
 have ae:(er !=0)=false:=sU q2
 rw[aiu (λh=>h q2)]at hinv
 have ak:=ad q2
 simp[go_sem,ae]
 by_cases k0:v.kind=0
 .have af:(v.kind==0)=true:=sU k0
  rw[aiv k0]at hinv
  simp[go_sem,af,ei]
  exact zI (i+1,acc) ⟨by show l.length - (i+1)<l.length - i;omega,⟨q,ha,has,hinv⟩,cc 5 (by simp[go_sem,zeroV,bJ.bQ]) rfl (by simp[bS,cN,cL,bJ.bQ,Ln.row]) dC (zD sg rfl)⟩
 have af:(v.kind==0)=false:=sU k0
 rw[aiu k0]at hinv
 have ab:=OL acc.n v.n ha ak.n
 have ah:=OO (acc.n+v.n)
 obtain⟨⟨sn,se⟩,hs⟩: ∃s,fj (acc.n+v.n)=s:=⟨_,rfl⟩
 rw[hs]at hinv ab ah
 simp only at hinv ah
 simp[go_sem,af]
 refine pC ab ?_
 simp[go_sem,wI]
 by_cases q3:se=0
 rotate_left
 .have ai:(se !=0)=true:=sU q3
  rw[aiv q3]at hinv
  simp[go_sem,ai]
  exact ret zeroV se _ hinv rfl
 have ai:(se !=0)=false:=sU q3
 rw[aiu (λh=>h q3)]at hinv
 simp[go_sem,ai,ei]
 exact zI (i+1,⟨2,sn,[]⟩) ⟨by show l.length - (i+1)<l.length - i;omega,⟨q,ah,rfl,hinv⟩,cc 5 (by simp[go_sem,zeroV,bJ.bQ,has]) rfl (by simp[bS,cN,cL,bJ.bQ,Ln.row]) dC (zD sg rfl)⟩
def rl (r:List bK×Int):V:=if r.2=0 then .cy [.agg (Ot.row ⟨0,[r.1]⟩),.int .i64 0]else .cy [.agg (Ot.row ⟨0,[]⟩),.int .i64 r.2]
theorem wt5 (T:bL) (hT:T.cm.length<=maxLen) (st:bW) (af:kM st) (l:List Ln) (hl:l.length<=10000) (cQ: ∀x∈l,∀v∈x.v,v.ok):bN prog 158 [.agg T.row,.agg st.row,.cM 0 3 l.length 0 l.length] [.cj (l.map Ln.row) 3] (λr s=>r=rl (ri T l st.items [])/\s= [.cj (l.map Ln.row) 3]):=by
 generalize hM:ri T l st.items []=M
 obtain⟨R,hR⟩:=eX st.items
 obtain⟨ah,ae⟩:=af.items
 rw[hR]at ah ae hM
 have bad: ∀(er:Int) (I:St),([],er)=M->er≠0->I.take 1= [.cj (l.map Ln.row) 3]->cx (some (.cy [.agg [.sl .full [],.int .i64 0],.int .i64 er])) 1 (λr s=>r=rl M/\s= [.cj (l.map Ln.row) 3]) I:=by
  rintro er I rfl h0 h
  refine yZ 1 (r:= .cy [.agg (Ot.row ⟨0,[]⟩),.int .i64 er]) h rfl (by simp[bS,cN,cL,Ln.row]) (A7 _) (yW ⟨wW ⟨zX,zF rfl,tV⟩,xV rfl,tV⟩) ⟨?_,rfl⟩
  unfold rl
  rw[aiu h0]
 have dS: ∀(acc:List bK) (I:St),(acc,0)=M->I.take 1= [.cj (l.map Ln.row) 3]->cx (some (.cy [.agg [.sl .full [[.sl .ro (acc.map bK.row)]],.int .i64 0],.int .i64 0])) 1 (λr s=>r=rl M/\s= [.cj (l.map Ln.row) 3]) I:=by
  rintro acc I rfl h
  exact yZ 1 (r:= .cy [.agg (Ot.row ⟨0,[acc]⟩),.int .i64 0]) h rfl (by simp[bS,cN,cL,Ln.row]) (A7 _) (yW ⟨wW ⟨zX,zF rfl,tV⟩,xV rfl,tV⟩) ⟨rfl,rfl⟩
 refine iV 1 func158 ntmps158 results158 λc hc hb=> ?_
 refine zA ?_
 simp[go_sem,hR]
 refine lU 8 3 dC sg ?_
 refine zH (S:=Nat×List bK) [2,3,4,6,7,8,15,16,17] (λu=> [.cM 0 3 l.length 0 l.length,.ptr 1 0,.ptr 2 0,.ptr 3 0,.int .i64 0,.sl (.app 4) (u.2.map bK.row),.sl .ro (R.map cP.row),.int .i64 R.length,.int .i64 u.1])
  (λu=> [.cj (l.map Ln.row) 3,.box T.row,.box st.row,.box [.sl .full [],.int .i64 0],.app u.2.length 3]) (λu=>R.length - u.1)
  (λu=>u.1<=R.length/\u.2.length<=u.1/\ri T l (R.drop u.1) u.2=M) hc hb (0,[]) ⟨A3 _,A7 _,hM⟩ ?_ ?_
 .exact cc 5 (by simp[go_sem,hR]) rfl (by simp[bS,cN,cL,bL.row,bW.row,Ln.row]) dC (zD sg rfl)
 rintro⟨i,acc⟩ ⟨hi,ha,hinv⟩
 simp only at hi ha hinv
 by_cases q:i<R.length
 rotate_left
 .rw[A9 om]at hinv
  refine zA ?_
  simp[go_sem,q]
  exact dS acc _ hinv rfl
 have ei:=zQ q om
 obtain⟨x,hx⟩:=eX (R[i])
 have ai:=(ae x (hx▸A8 q)).2
 rw[A5 q,hx,ri]at hinv
 refine zA ?_
 simp[go_sem,q,hx]
 by_cases k4:x.kind=4
 rotate_left
 .have ab:(x.kind==4)=false:=sU k4
  rw[aiu k4]at hinv
  simp[go_sem,ab]
  refine zJ ⟨om,zY rfl⟩ ?_
  simp[go_sem,ei]
  exact zI (i+1,acc++ [⟨2,l.length,[]⟩]) ⟨by show R.length - (i+1)<R.length - i;omega,⟨q,by show(acc++ [_]).length<=i+1;simp;omega,hinv⟩,aN 5 (by simp[bS,cN,cL,Ln.row])⟩
 have ab:(x.kind==4)=true:=sU k4
 rw[aiv k4]at hinv
 simp[go_sem,ab]
 have aa:=we2 T hT x.e ai l hl cQ
 obtain⟨⟨v,er⟩,hv⟩: ∃kv,ko T x.e l zeroV=kv:=⟨_,rfl⟩
 rw[hv]at hinv aa
 simp only at hinv
 refine mw 0 aa cB rfl (by simp[bS,cN,cL,Ln.row]) ⟨zC rfl,xf x.e,.inl rfl,tV⟩ (by rintro r s ⟨rfl,rfl⟩;exact⟨_,rfl,by simp[bS,cN,cL,Ln.row]⟩) ?_
 rintro r o ⟨rfl,ho⟩
 cases ho
 simp[go_sem,fk]
 by_cases q2:er=0
 rotate_left
 .have ad:(er !=0)=true:=sU q2
  rw[aiv q2]at hinv
  simp[go_sem,ad]
  exact bad er _ hinv q2 rfl
 have ad:(er !=0)=false:=sU q2
 rw[aiu (λh=>h q2)]at hinv
 simp[go_sem,ad]
 refine zJ ⟨om,zY rfl⟩ ?_
 simp[go_sem,ei]
 exact zI (i+1,acc++ [v]) ⟨by show R.length - (i+1)<R.length - i;omega,⟨q,by show(acc++ [_]).length<=i+1;simp;omega,hinv⟩,aN 5 (by simp[bS,cN,cL,Ln.row])⟩
theorem xh2 (y:cP):Pure prog 219 [.agg y.row] (.bool (y.kind==3||y.kind==4)):=by
 refine iV 0 func219 ntmps219 results219 λc hc hb=> ?_
 refine zA ?_
 by_cases k:y.kind=3
 .have k':(y.kind==3)=true:=sU k
  simp[go_sem,k']
  exact wR
 .have k':(y.kind==3)=false:=sU k
  simp[go_sem,k']
  exact wR
theorem wm6 (l:List cP) (hl:l.length<=12):Pure prog 269 [.sl .ro (l.map cP.row),.fn 219 []] (.int .i64 (xU (λy=>y.kind==3||y.kind==4) l 0)):=by
 generalize hM:xU (λy:cP=>y.kind==3||y.kind==4) l 0=M
 have ret: ∀(r:Int) (I:St),r=M->cx (some (.int .i64 r)) 0 (λr s=>r= .int .i64 M/\s= []) I:=λr I h=>by subst h;exact wR
 refine iV 0 func269 ntmps269 results269 λc hc hb=> ?_
 refine zA ?_
 simp[go_sem]
 refine zH (S:=Nat) [0,1,6,7,8] (λi=> [.sl .ro (l.map cP.row),.fn 219 [],.sl .ro (l.map cP.row),.int .i64 l.length,.int .i64 (i:Int)]) (λ_=> []) (λi=>l.length - i)
  (λi=>i<=l.length/\xU (λy=>y.kind==3||y.kind==4) (l.drop i) i=M) hc hb 0 ⟨A3 _,hM⟩ ?_ ?_
 .exact aN 0 sm
 rintro i ⟨hi,hinv⟩
 by_cases q:i<l.length
 rotate_left
 .rw[A9 om]at hinv
  refine zA ?_
  simp[go_sem,q]
  exact ret _ _ hinv
 have ei:=zQ q om
 obtain⟨y,hy⟩:=eX (l[i])
 rw[A5 q,hy,xU]at hinv
 have aa:=xh2 y
 generalize (y.kind==3||y.kind==4)=b at aa hinv
 refine zA ?_
 simp[go_sem,q,hy]
 refine pC aa ?_
 refine(A6 b).elim (λp=> ?_) (λp=> ?_)
 .rw[aiv p]at hinv
  simp[go_sem,p]
  exact ret _ _ hinv
 .rw[aiu (by rw[p];decide)]at hinv
  simp[go_sem,p,ei]
  exact zI (i+1) ⟨om,⟨om,hinv⟩,aN 0 sm⟩
theorem wl9 (l:List cP) (hl:l.length<=12):Pure prog 218 [.sl .ro (l.map cP.row),.fn 219 []] (.bool (BC l)):=by
 have h:=wm6 l hl
 have hg:=Ev (λy:cP=>y.kind==3||y.kind==4) l 0
 unfold BC
 rw[<-hg]
 generalize xU (λy:cP=>y.kind==3||y.kind==4) l 0=n at h⊢
 refine iW 0 func218 ntmps218 results218 λc hc hb=>zM ?_
 simp[go_sem]
 refine pC h ?_
 simp[go_sem]
 exact wR
theorem wg1 (st:bW) (aa:kM st):Pure prog 157 [.agg st.row] (.bool (BC st.items)):=by
 have h:=wl9 st.items aa.items.1
 generalize BC st.items=b at h⊢
 refine iW 0 func157 ntmps157 results157 λc hc hb=>zM ?_
 simp[go_sem]
 refine pC h ?_
 simp[go_sem]
 exact wR
theorem Vk: ∀{W:List (Pl×U)},(∀e∈W,e.1≠p)->W.filter (λe=> !decide (e.1=p))=W:=fun{W} h=>
 D2.2 λe he=>by simp[h e he]
theorem Vl {U:Type} {p:Pl} {v:U}: ∀{W:List (Pl×U)} {i:Nat},(W.map (·.1)).Nodup->W[i]? =some (p,v)->W.eraseIdx i=W.filter (λe=> !decide (e.1=p))
 | [],i,_,h=>by simp at h
 |e::W,0,hn,h=>by
  simp only[List.getElem?_cons_zero,aiy]at h
  subst h
  rw[Aj,C1]at hn
  rw[List.eraseIdx_cons_zero,De,aiu sm]
  exact(Vk λe he q=>hn.1 (Ac.2 ⟨e,he,q⟩)).symm
 |e::W,i+1,hn,h=>by
  rw[Dx]at h
  rw[Aj,C1]at hn
  have aa:e.1≠p:=λq=>hn.1 (Ac.2 ⟨(p,v),Bk h,q.symm⟩)
  rw[List.eraseIdx_cons_succ,De,aiv (by simp[aa]),Vl hn.2 h]
theorem ws3 (hn:(b.W.map (·.1)).Nodup) (p:Pl):(b.del p).W=b.W.filter (λe=> !decide (e.1=p)):=by
 unfold Mp.del
 cases h:b.at p with
 |none=>exact(Vk (Lm h)).symm
 |some q=>exact Vl hn (xm (i:=q.1) (v:=q.2) h)
theorem Vm {U:Type} {p:Pl} {u v:U}: ∀{W:List (Pl×U)} {i:Nat},(W.map (·.1)).Nodup->W[i]? =some (p,u)->W.set i (p,v)=W.map (λe=>if e.1=p then(p,v)else e)
 | [],i,_,h=>by simp at h
 |e::W,0,hn,h=>by
  simp only[List.getElem?_cons_zero,aiy]at h
  subst h
  rw[Aj,C1]at hn
  rw[Cf,Aj,aiv rfl]
  congr 1
  refine(List.map_id _).symm.trans (B9 λe he=> ?_)
  rw[aiu λq=>hn.1 (Ac.2 ⟨e,he,q⟩)];rfl
 |e::W,i+1,hn,h=>by
  rw[Dx]at h
  rw[Aj,C1]at hn
  have aa:e.1≠p:=λq=>hn.1 (Ac.2 ⟨(p,u),Bk h,q.symm⟩)
  rw[By,Aj,aiu aa,Vm hn.2 h]
theorem cO.keys {l:List Ln} (h:cO b l):(b.W.map (·.1)).Nodup:=by
 have h1:=h.perm.map (·.1)
 rw[Bg]at h1
 exact h1.nodup_iff.2 h.jh.nodup
theorem cO.del {l:List Ln} (h:cO b l) (p:Pl):cO (b.del p) (l.filter λy=> !decide (y.at=p)):=by
 refine⟨Mp.EA h.ok _, ?_, ?_,λy hy=>h.rows y (Bo.1 hy).1⟩
 .exact List.Pairwise.sublist ((C2).map _) h.jh
 .rw[ws3 h.keys]
  have h1:=h.perm.filter (λe=> !decide (e.1=p))
  rw[List.filter_map]at h1
  exact h1
theorem cO.Ix {l:List Ln} (h:cO b l) (p:Pl) (row:List bK) (hp:jF l p) (aa:fM ⟨p.1,p.2,row⟩):cO (b.put p (xL row)) (jB l p row):=by
 have ab:(jB l p row).map Ln.at=l.map Ln.at:=by
  unfold jB
  rw[Bg]
  refine B9 λy _=> ?_
  by_cases q:y.at=p
  .simp only[Function.comp,aiv q];rfl
  .simp only[Function.comp,aiu q]
 refine⟨Mp.jf h.ok _ _, ?_, ?_,λy hy=> ?_⟩
 .rw[ab];exact h.jh
 .have e:(b.put p (xL row)).W=b.W.map (λe=>if e.1=p then(p,xL row)else e):=by
   unfold Mp.put
   cases r:b.at p with
   |none=>rw[h.gR.1 r]at hp;cases hp
   |some q=>exact Vm h.keys (xm (i:=q.1) (v:=q.2) r)
  rw[e]
  have h1:=h.perm.map (λe=>if e.1=p then(p,xL row)else e)
  rw[Bg]at h1
  refine h1.trans (aiR ?_)
  unfold jB
  rw[Bg]
  refine B9 λy _=> ?_
  by_cases q:y.at=p
  .simp only[Function.comp,aiv q]
   show _=((y.r,y.k),xL row)
   rw[<-q];rfl
  .simp only[Function.comp,aiu q]
 .unfold jB at hy
  obtain⟨z,hz,rfl⟩:=Ac.1 hy
  by_cases q:z.at=p
  .rw[aiv q]
   subst q
   exact aa
  .rw[aiu q];exact h.rows z hz
theorem VK.okV {v:bK} {k:Int} (h:VK v k):v.ok:=by
 have hm:=h.may
 have hn:=h.n
 rcases OU hm with ⟨h1,_,h3⟩|⟨h1,_,h3⟩|⟨h1,h3⟩|⟨h1,_,h3⟩
 all_goals
  refine⟨by rw[h1];decide,hn, ?_⟩
  first|(rw[h3];decide)|(unfold maxLen;omega)
theorem Lw {T:bL} {oB:List bK} (ho: ∀v∈oB,v.ok): ∀{cD:List cp} {row:List bK},(∀x∈cD,ja x.e)->(∀v∈row,v.ok)->(gz T oB cD row).2=0->(gz T oB cD row).1.length=row.length/\ ∀v∈(gz T oB cD row).1,v.ok
 | [],row,_,hr,_=>(by trivial)
 |x::l,row,hs,hr,h=>by
  rw[gz]at h⊢
  by_cases q:(gL T oB x.e).2=0
  .rw[aiu om]at h⊢
   have hv:=(Vj ho (by grind) q).okV
   have h2:=Lw ho (cD:=l) (row:=row.set (cV T x.name).toNat (gL T oB x.e).1) (by grind) (by grind) h
   grind
  grind
theorem Vn {T:bL} {st:bW}: ∀{l acc:List Ln},∀x∈(ud T st acc l).1,x∈acc\/x∈l
 | [],_,_,h=> .inl h
 |y::l,acc,x,h=>by
  rw[ud]at h
  by_cases q:(gL T y.v st.cA).2=0
  .rw[aiu om]at h
   rcases Vn (l:=l) x h with h|h
   all_goals grind
  grind
theorem Lx {t:Int} {T:bL} {l:List Ln}: ∀x∈(ga t T st l).1,x∈l/\(pq t st x)=true:=λx h=>by
 unfold ga at h
 have hf:x∈l.filter (pq t st):=by
  by_cases q:st.dO=true
  .rw[aiv q]at h
   rcases Vn x h with h|h
   all_goals grind
  grind
 grind
theorem wb4 (l:List Ln) (p:Pl) (row:List bK):(jB l p row).map Ln.at=l.map Ln.at:=by
 unfold jB
 rw[Bg]
 refine B9 λy _=> ?_
 by_cases q:y.at=p
 .simp only[Function.comp,aiv q];rfl
 grind
theorem Vo (l:List Ln) (p q:Pl) (row:List bK):jF (jB l p row) q=jF l q:=by
 rw[D9,gb,gb,wb4]
def kX (p q:Pl):Int:=tU [gu p.1 q.1,je p.2 q.2]
theorem O5 (p q:Pl):decide (kX p q<0)=xY p q:=by
 obtain⟨a,s⟩:=p
 obtain⟨b,t⟩:=q
 simp only[kX,tU,gu,je,xY]
 by_cases h1:a<b
 .simp[h1]
 .by_cases h2:a>b
  .have h3: ¬a=b:=om
   simp[h1,h2,h3]
  .have h3:a=b:=om
   subst h3
   by_cases h4:Op.bytesLess s t=true
   .simp[h4]
   .have aa:Op.bytesLess s t=false:=sU h4
    by_cases h5:Op.bytesLess t s=true
    .simp[aa,h5]
    .simp[aa,h5]
theorem Vp:Go.Sort.SWO λa b=>decide (kX a b<0):=by
 have e:(λa b=>decide (kX a b<0))=xY:=funext λa=>funext λb=>O5 a b
 rw[e]
 refine⟨Ls,λx y z h g=>It h g,λx y z h g=> ?_⟩
 cases q:xY x z with
 |false=>rfl
 |true=>
  rcases Iu x y with r|r|r
  .rw[r]at h;cases h
  .subst r;rw[q]at g;cases g
  .have:=It r q;rw[this]at g;cases g
theorem wc1 {X:Type} {kx:X->Pl} {l:List X} (h:l.Pairwise λa b=> ¬kX (kx b) (kx a)<0) (hn:(l.map kx).Nodup):iB (l.map kx):=by
 unfold iB
 rw[Da]
 rw[List.Nodup,Da]at hn
 refine(h.and hn).imp fun{a b} ⟨h1,h2⟩=> ?_
 rcases Iu (kx a) (kx b)with r|r|r
 .exact r
 .exact absurd r h2
 .rw[<-O5]at r
  exact absurd (aiD r) h1
theorem Vq (p q:Pl):Pure prog 110 [ia p,ia q] (.int .i64 (kX p q)):=by
 have h:=Io [gu p.1 q.1,je p.2 q.2] (by simp[maxLen])
 have h1:=OF p.1 q.1
 have h2:=Uq p.2 q.2
 unfold kX
 generalize tU [gu p.1 q.1,je p.2 q.2]=M at*
 refine iW 0 func110 ntmps110 results110 λc hc hb=>zM ?_
 simp[go_sem,ia]
 refine yE [(4,0),(9,0),(11,0)] 2 rfl kR kR ?_
 simp[go_sem]
 refine pD h1 ?_
 simp[go_sem]
 refine pD h2 ?_
 simp[go_sem]
 refine pD h ?_
 simp[go_sem]
 exact wR
theorem xN4 (p q:Pl):Pure prog 155 [.agg (.int .i64 p.1:: .str p.2::List.replicate (3 - 2) .u),.agg (.int .i64 q.1:: .str q.2::List.replicate (3 - 2) .u)] (.int .i64 (kX p q)):=by
 have h:=Vq p q
 rw[ia,ia]at h
 show Pure prog 155 [.agg [.int .i64 p.1,.str p.2,.u],.agg [.int .i64 q.1,.str q.2,.u]] (.int .i64 (kX p q))
 refine iW 0 func155 ntmps155 results155 λc hc hb=>zM ?_
 simp[go_sem]
 refine pC h ?_
 simp[go_sem]
 exact wR
def j4 (seen:aj0) (W:List (Pl×U)) (bs:aj0):List ((Pl×U)×Nat):=(W.zip bs).filter λp=> !seen.contains p.2
theorem Vr {U:Type} {g:U->V} {seen:aj0}: ∀{W:List (Pl×U)} {bs:aj0},yy seen (gx g W) bs=(j4 seen W bs).map λp=>(ia p.1.1,g p.1.2,p.2)
 | [],bs=>by cases bs<;>rfl
 |e::W,[]=>rfl
 |e::W,b::bs=>by
  rw[gx,yy,Vr]
  unfold j4
  rw[Dz,De]
  cases h:seen.contains b
  .simp only[Cu,aiL,Bool.not_false,aiE,Aj]
  .simp only[aiE,Bool.not_true,Cu,aiL]
theorem Ly {U:Type} {g:U->V}: ∀{W:List (Pl×U)} {bs:aj0} {p:(Pl×U)×Nat},bs.Nodup->p∈W.zip bs->EU p.2 (gx g W) bs=some (ia p.1.1,g p.1.2)
 | [],_,_,_,h=>by simp at h
 |e::W,[],_,_,h=>by simp at h
 |e::W,b::bs,p,hn,h=>by
  rw[C1]at hn
  rw[gx,EU]
  rw[Dz]at h
  rcases Ae.1 h with rfl|h
  .rw[aiv rfl]
  .have:b≠p.2:=λq=>hn.1 (q▸(List.of_mem_zip h).2)
   rw[aiu this]
   exact Ly hn.2 h
theorem Vs {U:Type}: ∀{W:List U} {bs:aj0},bs.Nodup->((W.zip bs).map (·.2)).Nodup
 | [],_,_=>by simp
 |e::W,[],_=>by simp
 |e::W,b::bs,h=>by
  rw[C1]at h
  rw[Dz,Aj,C1]
  refine⟨λq=> ?_,Vs h.2⟩
  obtain⟨p,hp,rfl⟩:=Ac.1 q
  exact h.1 (List.of_mem_zip hp).2
theorem Vt {U:Type} {p:U×Nat}: ∀{L:List (U×Nat)},(L.map (·.2)).Nodup->p∈L->L.Perm (p::L.filter λq=> !decide (q.2=p.2))
 | [],_,h=>by cases h
 |x::L,hn,h=>by
  rw[Aj,C1]at hn
  rcases Ae.1 h with rfl|h
  .have:(p::L).filter (λq=> !decide (q.2=p.2))=L:=by
    rw[De,aiu sm]
    exact D2.2 λq hq=>by
     have:q.2≠p.2:=λe=>hn.1 (Ac.2 ⟨q,hq,e⟩)
     simp[this]
   rw[this]
  .have:x.2≠p.2:=λe=>hn.1 (Ac.2 ⟨p,h,e.symm⟩)
   rw[De,aiv (by simp[this])]
   exact((Vt hn.2 h).cons x).trans (List.Perm.swap ..)
theorem Lz (hn:bs.Nodup) {p:(Pl×U)×Nat} (hp:p∈j4 seen W bs):(j4 seen W bs).Perm (p::j4 (seen++ [p.2]) W bs):=by
 have h1:((j4 seen W bs).map (·.2)).Nodup:=aiH ((C2).map _) (Vs hn)
 refine(Vt h1 hp).trans (aiR ?_)
 congr 1
 unfold j4
 rw[List.filter_filter]
 refine List.filter_congr λq _=> ?_
 by_cases e:q.2=p.2
 .simp[e]
 .simp[e]
theorem LA {p:(Pl×U)×Nat} (hp:p∈j4 seen W bs):p∈W.zip bs:=(Bo.1 hp).1
theorem xZ7 (h:bs.length=W.length):(j4 [] W bs).map (·.1)=W:=by
 unfold j4
 rw[D2.2 λq _=>sm,List.map_fst_zip om]
def ib (seen:aj0) (W:List (Pl×U)) (bs:aj0) (D:List (Pl×U)):Prop:=(D++(j4 seen W bs).map (·.1)).Perm W
theorem ib.start (h:bs.length=W.length):ib [] W bs []:=by
 unfold ib
 rw[xZ7 h];exact List.Perm.refl _
theorem ib.next {D:List (Pl×U)} (hn:bs.Nodup) (h:ib seen W bs D) {p:(Pl×U)×Nat} (hp:p∈j4 seen W bs):ib (seen++ [p.2]) W bs (D++ [p.1]):=by
 unfold ib at h⊢
 refine List.Perm.trans ?_ h
 rw[D0]
 have h1:=(Lz hn hp).map λx:(Pl×U)×Nat=>x.1
 rw[Aj]at h1
 exact List.Perm.append_left _ h1.symm
theorem ib.done {D:List (Pl×U)} (h:ib seen W bs D) (h0:j4 seen W bs= []):D.Perm W:=by
 unfold ib at h
 rw[h0]at h
 simpa using h
theorem Vu {U:Type} {p q:U->Bool}: ∀{l:List U},(∀x∈l,p x=true->q x=false)->(l.filter p++l.filter q).Perm (l.filter λx=>p x||q x)
 | [],_=>List.Perm.refl _
 |x::l,h=>by
  have ih:=Vu (l:=l) λy hy=>h y (Ba _ hy)
  have hx:=h x (B1 ..)
  simp only[De]
  cases hp:p x with
  |true=>
   simp only[hx hp,Di,aiE,Cu,aiL,Bt]
   exact ih.cons x
  |false=>
   cases hq:q x with
   |true=>
    simp only[C5,aiE,Cu,aiL]
    exact Df.trans (ih.cons x)
   |false=>
    simp only[C5,Cu,aiL]
    exact ih
theorem Vv {l:List Ln} {c:Ln->Bool} {rg:Int->Int}: ∀{G:aj2},(G.map rg).Nodup->(G.flatMap λg=>l.filter λx=>(rg g==x.r)&&c x).Perm (l.filter λx=>(G.any λg=>rg g==x.r)&&c x)
 | [],_=>by simp
 |g::G,hn=>by
  rw[Aj,C1]at hn
  rw[Bw]
  refine(List.Perm.append_left _ (Vv (l:=l) (c:=c) hn.2)).trans ((Vu λx _ hp=> ?_).trans (aiR (List.filter_congr λx _=> ?_)))
  .simp only[Ab,aiB]at hp
   have:(G.any λg=>rg g==x.r)=false:=by
    cases q:G.any λg=>rg g==x.r with
    |false=>rfl
    |true=>
     obtain⟨g',h1,h2⟩:=List.any_eq_true.1 q
     exact absurd (Ac.2 ⟨g',h1,(beq_iff_eq.1 h2).trans hp.1.symm⟩) hn.1
   rw[this,Ds]
  .rw[List.any_cons,Bool.and_or_distrib_right]
theorem xz8 {l m:List Ln} (hr:iB (l.map Ln.at)) (hp:m.Perm l) (hs:m.Pairwise λa b=>xY b.at a.at=false):m=l:=by
 have aa:(m.map Ln.at).Nodup:=(hp.map Ln.at).nodup_iff.2 hr.nodup
 have h1:l.Pairwise λa b=>xY a.at b.at=true:=Da.1 hr
 have h2:m.Pairwise λa b=>xY a.at b.at=true:=by
  refine(hs.and (Da.1 aa)).imp fun{a b} h=> ?_
  rcases Iu a.at b.at with q|q|q
  .exact q
  .exact absurd q h.2
  .rw[h.1]at q;cases q
 exact hp.eq_of_pairwise (λa b _ _ h g=>by rw[Va h]at g;cases g) h2 h1
theorem O6 (c:UInt8):UInt8.ofNat c.toNat=c:=sm
theorem Vy: ∀(l:aiZ) (i v u n:Nat),il l i v=(u,n,0)-> ∃w k,u=v+w*128^i/\n=i+k/\l.take k=eG w/\k<=l.length/\(0<i->0<w)
 | [],i,v,u,n,h=>by grind[il]
 |c::rest,i,v,u,n,h=>by
  rw[il]at h
  split at h
  .grind
  .split at h
   .rename_i h2
    split at h
    .grind
    .rename_i h3
     simp only[aiF]at h
     obtain⟨h4,h5,_⟩:=h
     refine⟨c.toNat,1, ?_,h5.symm, ?_,sm,λhi=> ?_⟩
     .grind
     .rw[Ga h2,O6];rfl
     omega
   .rename_i h2
    obtain⟨w,k,h4,h5,h6,h7,h8⟩:=Vy rest (i+1) _ u n h
    have hw:=om
    have hc:=c.toNat_lt
    have e1:(c.toNat%128+128*w)%128=c.toNat%128:=om
    have e2:(c.toNat%128+128*w)/128=w:=om
    refine⟨c.toNat%128+128*w,k+1, ?_,om, ?_,by grind,om⟩
    .grind
    .rw[H0 om,e1,e2,Cb,h6]
     grind[O6]
theorem wg6 (u:Nat):gH (kO u)=u:=by
 grind[gH,kO]
theorem O7 {l:aiZ} {u n:Nat} (h:il l 0 0=(u,n,0)):l.take n=eG u/\n<=l.length:=by
 grind[Vy]
theorem yS9: ∀{b:aiZ},(lA b).e=0->b.take (lA b).n=kC (lA b).v/\(lA b).n<=b.length/\0<(lA b).n
 | [],h=>by trivial
 |c::rest,h=>by
  have hc:=O6 c
  rw[lA]at h⊢
  revert h
  unfold pe
  split
  .grind[kC,ez,v0]
  .split
   .rename_i _ h1
    rw[h1]at hc
    unfold ve
    cases rest with
    |nil=>simp
    |cons d rest=>
     simp only[Ah,List.getD_cons_succ,List.getD_cons_zero]
     rw[aiu om]
     split
     .simp
     .intro _
      rename_i hd
      refine⟨?_,sm,sm⟩
      have hm:ez ⟨1,(d.toNat:Int),[]⟩=true:=by
       grind[ez]
      simp_all[kC]
   .split
    .rename_i _ _ h2
     rw[h2]at hc
     obtain⟨⟨u,n,e⟩,hg⟩: ∃g,il rest 0 0=g:=⟨_,rfl⟩
     rw[hg]
     simp only
     split
     all_goals simp_all[O7,kC,ez,E1,wg6]
    .split
     .rename_i _ _ _ h3
      rw[h3]at hc
      obtain⟨⟨u,n,e⟩,hg⟩: ∃g,il rest 0 0=g:=⟨_,rfl⟩
      unfold tK wQ
      rw[hg]
      by_cases he:e=0
      rotate_left
      .grind
      subst he
      by_cases h5:1048576<u
      .grind
      by_cases h6:rest.length - n<u
      .grind
      obtain⟨h7,h8⟩:=O7 hg
      have aa:((rest.take (n+u)).drop n).length=u:=by
       grind
      simp only[h5,h6,aiL,ne_eq,aiN,aa]
      by_cases hl:64<u
      .grind
      rw[aiu hl]
      intro _
      refine⟨?_,by grind,by grind⟩
      have hm:ez ⟨3,0,(rest.take (n+u)).drop n⟩=true:=by
       grind[ez]
      unfold kC
      rw[aiv hm]
      simp only
      rw[aiu dC,aiu dC,aiv True.intro,aa,<-h7]
      rw[E1 1 (n+u),Cb]
      show c::_=UInt8.ofNat 3::_
      rw[hc]
      congr 1
      grind[B8]
     simp
theorem Vz: ∀(n:Nat) (b:aiZ) (l:List bK),iA n b=some l->l.flatMap kC=b/\l.length=n
 |0,b,l,h=>by
  rw[iA]at h
  grind
 |n+1,b,l,h=>by
  rw[iA]at h
  split at h
  .rename_i he
   rw[Av]at h
   obtain⟨l',h1,rfl⟩:=h
   obtain⟨h2,h3⟩:=Vz n _ l' h1
   obtain⟨h4,_,_⟩:=yS9 he
   refine⟨?_,by simp[h3]⟩
   rw[Bw,h2,<-h4,B8]
  grind
theorem xd5 {nc:Nat} {data:aiZ} (h:(R.jR nc data).2=0):xL (R.jR nc data).1=data:=by
 revert h
 unfold R.jR
 split
 .rename_i h0
  intro h
  obtain⟨⟨u,n,e⟩,hg⟩: ∃g,il data 0 0=g:=⟨_,rfl⟩
  rw[hg]at h h0⊢
  obtain⟨h1,h2⟩:=h0
  simp only at h1 h2 h⊢
  rw[h1]at hg
  subst h2
  obtain⟨h3,_⟩:=O7 hg
  cases hr:iA u (data.drop n)with
  |none=>grind[tL]
  |some l=>
   obtain⟨h5,h6⟩:=Vz _ _ _ hr
   show xL l=data
   unfold xL sb
   grind[B8]
 omega
theorem fM.read {x:Ln} (h:fM x):dZ bO (fC x.r).1 (xL x.v)=(x.v,0):=by
 obtain⟨tn,T,e,hT,hm⟩:=h.jD
 obtain⟨aa,ab⟩:=A4.1 hT
 have hL:=Gu ((by decide: ∀T∈bO,T.cm.length<=20) T (by grind)) h.ok hm
 simp_all[dZ,xP4]
def vm (t:Int) (e:Pl×aiZ):Ln:=⟨e.1.1,e.1.2,(dZ bO t e.2).1⟩
def p0 (dy:Int) (lo hi:aiZ) (e:Pl×aiZ):Bool:=(e.1.1==dy)&&(!Op.bytesLess e.1.2 lo&&Op.bytesLess e.1.2 hi)
def Iy (dy:Int) (lo hi:aiZ) (x:Ln):Bool:=(dy==x.r)&&(!Op.bytesLess x.k lo&&Op.bytesLess x.k hi)
theorem yQ8 {l:List Ln} (h:cO b l) {D:List (Pl×aiZ)} (hD:D.Perm b.W) {t dy:Int} (hr:(fC dy).1=t) (lo hi:aiZ):
  ((D.filter (p0 dy lo hi)).map (vm t)).Perm (l.filter (Iy dy lo hi)):=by
 have h1:=((hD.trans h.perm).filter (p0 dy lo hi)).map (vm t)
 refine h1.trans (aiR ?_)
 rw[List.filter_map,Bg]
 have e1:l.filter (p0 dy lo hi∘λx=>(x.at,xL x.v))=l.filter (Iy dy lo hi):=List.filter_congr λx _=>by
  show((x.r==dy)&&_)=((dy==x.r)&&_)
  rw[Bool.beq_comm]
  rfl
 rw[e1]
 refine(B9 λx hx=> ?_).trans (List.map_id _)
 obtain⟨ad,aa⟩:=Bo.1 hx
 unfold Iy at aa
 rw[Ab,aiB]at aa
 have ab:=(h.rows x ad).read
 rw[<-aa.1,hr]at ab
 show vm t (x.at,xL x.v)=x
 unfold vm
 rw[ab]
 rfl
theorem xc9 (j:Nat) (hj:j<3) (st:bW):((wA (j:Int) st).map λg=>(xF j g).1).Nodup:=by
 match j,hj with
 |0,_=>
  have e:wA ((0:Nat):Int) st=jc (nK st) [0,1]:=rfl
  rw[e,OY]
  exact aiH ((C2).map _) (by decide:([0,1].map λg=>(xF ((0:Nat):Int) g).1).Nodup)
 |1,_=>exact(by decide:([-1].map λg=>(xF ((1:Nat):Int) g).1).Nodup)
 |2,_=>exact(by decide:([1].map λg=>(xF ((2:Nat):Int) g).1).Nodup)
theorem VA (j:Nat) (hj:j<3) {g:Int} (hg:g∈wA (j:Int) st):(g= -1\/g=0\/g=1)/\(xF j g).2=0/\fC (xF j g).1=((j:Int),g,0):=by
 match j,hj with
 |0,_=>
  have e:wA ((0:Nat):Int) st=jc (nK st) [0,1]:=rfl
  rw[e,OY]at hg
  have:=(Bo.1 hg).1
  simp at this
  rcases this with rfl|rfl
  all_goals decide
 |1,_=>
  have e:wA ((1:Nat):Int) st= [-1]:=rfl
  rw[e]at hg
  simp at hg
  subst hg
  decide
 |2,_=>
  have e:wA ((2:Nat):Int) st= [1]:=rfl
  rw[e]at hg
  simp at hg
  subst hg
  decide
theorem yD2 (j:Nat) (hj:j<3) (st:bW) (l:List Ln):((wA (j:Int) st).flatMap λg=>l.filter (Iy (xF j g).1 (nR bO j st).1 (nR bO j st).2)).Perm (l.filter (pq j st)):=
 Vv (l:=l) (c:=λx=> !Op.bytesLess x.k (nR bO j st).1&&Op.bytesLess x.k (nR bO j st).2) (rg:=λg=>(xF j g).1) (xc9 j hj st)
theorem xb0 {j:Nat} {l m:List Ln} (hr:iB (l.map Ln.at)) (hp:m.Perm (l.filter (pq j st))) (hs:m.Pairwise λa b=> ¬kX b.at a.at<0):m=l.filter (pq j st):=by
 refine xz8 (List.Pairwise.sublist ((C2).map _) hr) hp (hs.imp fun{a b} h=> ?_)
 rw[<-O5]
 grind
def oC (l:List Wr):Prop:=l.Pairwise λa b=>xY a.p b.p=true
theorem O8 (l:List Wr) (x:Wr):(kW l x).Perm (x::l):=by
 unfold kW
 refine Df.trans (List.Perm.cons _ (aiR ?_))
 simp
theorem VB {x:Wr}: ∀{l:List Wr},oC l->(∀y∈l,y.p≠x.p)-> ∀y∈l.dropWhile (λy=>xY y.p x.p),xY x.p y.p=true
 | [],_,_,y,hy=>by simp_all
 |z::l,hr,hn,y,hy=>by
  rw[oC,Cg]at hr
  rw[List.dropWhile_cons]at hy
  by_cases q:xY z.p x.p=true
  .rw[aiv q]at hy
   exact VB hr.2 (by grind) y hy
  .rw[aiu q]at hy
   have hz:xY x.p z.p:=by
    grind[Iu]
   rcases Ae.1 hy with rfl|hy
   all_goals grind[It]
theorem xu2 {l:List Wr} {x:Wr} (h:oC l) (hn: ∀y∈l,y.p≠x.p):oC (kW l x):=by
 have hd:=VB h hn
 have ht: ∀y∈l.takeWhile (λy=>xY y.p x.p),xY y.p x.p:=O3
 unfold oC at h
 rw[<-Cm (p:=λy:Wr=>xY y.p x.p) (l:=l),Bs]at h
 unfold kW oC
 rw[Bs,Cg]
 grind
theorem O9 {f:Ln->Wr} (hf: ∀x,(f x).p=x.at): ∀{m:List Ln} {l:List Wr},oC l->(l.map (·.p)++m.map Ln.at).Nodup->oC (m.foldl (λl x=>kW l (f x)) l)/\(m.foldl (λl x=>kW l (f x)) l).Perm (l++m.map f)
 | [],l,h,_=>(by simp_all)
 |x::m,l,h,hn=>by
  have hx: ∀y∈l,y.p≠(f x).p:=(by grind)
  have h2:((kW l (f x)).map (·.p)++m.map Ln.at).Nodup:=by
   have hp:((kW l (f x)).map (·.p)++m.map Ln.at).Perm (l.map (·.p)++(x::m).map Ln.at):=by
    refine(((O8 l (f x)).map (·.p)).append_right _).trans ?_
    rw[Aj,Aj,hf]
    exact Df.symm
   exact hp.nodup_iff.2 hn
  obtain⟨h3,h4⟩:=O9 hf (m:=m) (xu2 h hx) h2
  refine⟨h3,h4.trans ?_⟩
  refine((O8 l (f x)).append_right _).trans ?_
  rw[Aj]
  exact Df.symm
theorem VD {l m:List Wr} (h:oC l) (g:oC m) (e: ∀x,x∈l↔x∈m):l=m:=by
 have nd: ∀{l:List Wr},oC l->l.Nodup:=λh=>h.imp (by grind[Ls])
 exact((List.perm_ext_iff_of_nodup (nd h) (nd g)).2 om).eq_of_pairwise (by grind[Va]) h g
def isW (pZ now:List Ln) (w:Wr):Prop:=
 (w.drop=true/\w.data= []/\(∃x∈pZ,x.at=w.p)/\jF now w.p=false)\/(w.drop=false/\ ∃x∈now,x.at=w.p/\xL x.v=w.data/\ ∀y∈pZ,y.at=x.at->xL y.v≠xL x.v)
theorem LB {aa now:List Ln} (hw:iB (aa.map Ln.at)) (hn:iB (now.map Ln.at)):oC (jg aa now)/\ ∀w,w∈jg aa now↔isW aa now w:=by
 obtain⟨h1,h2⟩:=O9 (f:=λx=>⟨x.at,true,[]⟩) sm (m:=aa.filter λx=> !jF now x.at) (l:= []) List.Pairwise.nil (by
  simp only[Bq,C7]
  exact aiH ((C2).map _) hw.nodup)
 rw[C7]at h2
 obtain⟨h3,h4⟩:=O9 (f:=λx=>⟨x.at,false,xL x.v⟩) sm (m:=now.filter λx=> !(aa.any λy=>decide (y.at=x.at)&&decide (xL y.v=xL x.v))) h1 (by
  have hp:=(h2.map (·.p)).append_right ((now.filter λx=> !(aa.any λy=>decide (y.at=x.at)&&decide (xL y.v=xL x.v))).map Ln.at)
  refine hp.nodup_iff.2 ?_
  rw[Bg,Co]
  refine⟨aiH ((C2).map _) hw.nodup,aiH ((C2).map _) hn.nodup,λa ha b hb e=> ?_⟩
  obtain⟨x,hx,rfl⟩:=Ac.1 ha
  obtain⟨y,hy,rfl⟩:=Ac.1 hb
  grind[jF])
 refine⟨h3,λw=> ?_⟩
 have h5:=(h4.trans (h2.append_right _)).mem_iff (a:=w)
 rw[Af,Ac,Ac]at h5
 refine h5.trans (or_congr ⟨?_, ?_⟩ ⟨?_, ?_⟩)
 .grind
 .rintro⟨e1,e2,⟨x,hx,e3⟩,e4⟩
  refine⟨x,(by grind), ?_⟩
  obtain⟨p,d,b⟩:=w
  grind
 .grind
 .rintro⟨e1,x,hx,e2,e3,e4⟩
  refine⟨x,Bo.2 ⟨hx, ?_⟩, ?_⟩
  .grind
  .obtain⟨p,d,b⟩:=w
   grind
def ic (out:List (Int×List Wr)) (w:Wr):List (Int×List Wr):=
 match out.getLast? with
 |some q=>if q.1=w.p.1 then out.dropLast++ [(q.1,q.2++ [w])]else out++ [(w.p.1,[w])]
 |none=> [(w.p.1,[w])]
def mK (l:List Wr):List (Int×List Wr):=l.foldl ic []
theorem VE {r:Int}: ∀{B C:List Wr} {out:List (Int×List Wr)},(∀w∈B,w.p.1=r)->B.foldl ic (out++ [(r,C)])=out++ [(r,C++B)]
 | [],C,out,_=>by simp
 |w::B,C,out,h=>by
  have hw:=h w (B1 ..)
  have e:ic (out++ [(r,C)]) w=out++ [(r,C++ [w])]:=by
   unfold ic
   rw[List.getLast?_append]
   simp[hw]
  rw[Bn,e,VE λy hy=>h y (Ba _ hy)]
  simp
theorem LC {B:List Wr} {out:List (Int×List Wr)} (h: ∀w∈B,w.p.1=r) (ho: ∀q∈out,q.1≠r):B.foldl ic out=out++(if B= []then []else [(r,B)]):=by
 cases B with
 |nil=>simp
 |cons w B=>
  have hw:=h w (B1 ..)
  have e:ic out w=out++ [(r,[w])]:=by
   unfold ic
   cases q:out.getLast? with
   |none=>simp_all
   |some p=>
    grind
  grind[VE]
theorem yR1 {l:List Wr} (h:oC l) (hr: ∀w∈l,w.p.1=0\/w.p.1=1\/w.p.1=2\/w.p.1=3):l=l.filter (λw=>w.p.1==0)++(l.filter (λw=>w.p.1==1)++(l.filter (λw=>w.p.1==2)++l.filter (λw=>w.p.1==3))):=by
 have hl: ∀{a b:Wr},a.p.1<b.p.1->xY a.p b.p=true:=(by grind[xY])
 refine VD h ?_ λw=> ?_
 .unfold oC at h⊢
  rw[Bs,Bs,Bs]
  refine⟨h.filter _,⟨h.filter _,⟨h.filter _,h.filter _, ?_⟩, ?_⟩, ?_⟩
  .grind
  .grind
  .intro a ha b hb
   have h1:=(Bo.1 ha).2
   rw[Af,Af]at hb
   grind
 grind
def gT (l:List Wr) (r:Int):List (Int×List Wr):=if l.filter (λw=>w.p.1==r)= []then []else [(r,l.filter (λw=>w.p.1==r))]
theorem vo {l:List Wr}: ∀q∈gT l r,q.1=r:=(by grind[gT])
theorem VF {l:List Wr} (h:oC l) (hr: ∀w∈l,w.p.1=0\/w.p.1=1\/w.p.1=2\/w.p.1=3):mK l=gT l 0++(gT l 1++(gT l 2++gT l 3)):=by
 have hb: ∀r:Int,∀w∈l.filter (λw=>w.p.1==r),w.p.1=r:=sm
 have e:=yR1 h hr
 unfold mK
 rw[e,Cc,Cc,Cc,LC (hb 0) sm]
 have e0: ∀r,(if l.filter (λw=>w.p.1==r)= []then []else [(r,l.filter (λw=>w.p.1==r))])=gT l r:=λ_=>rfl
 rw[<-e,e0,C7,LC (hb 1) (λq hq=>by rw[vo q hq];decide),e0,
  LC (hb 2) (λq hq=>by
   rcases Af.1 hq with hq|hq<;>rw[vo q hq]<;>decide),e0,
  LC (hb 3) (λq hq=>by
   rcases Af.1 hq with hq|hq
   .rcases Af.1 hq with hq|hq<;>rw[vo q hq]<;>decide
   .rw[vo q hq];decide),e0]
 simp
theorem wn5 {g:Int} (he:(fC g).2.2=0): ∃(tn:Nat) (T:bL),(fC g).1=(tn:Int)/\bO[tn]? =some T:=by
 unfold fC at he⊢
 split at he<;>rename_i q0
 .rw[aiv q0];exact⟨0,_,rfl,rfl⟩
 .rw[aiu q0]
  split at he<;>rename_i q1
  .rw[aiv q1];exact⟨0,_,rfl,rfl⟩
  .rw[aiu q1]
   split at he<;>rename_i q2
   .rw[aiv q2];exact⟨1,_,rfl,rfl⟩
   .rw[aiu q2]
    split at he<;>rename_i q3
    .rw[aiv q3];exact⟨2,_,rfl,rfl⟩
    grind
def xp (x:Ln):Prop:=l7 x.r x.k (xL x.v)=true
theorem VG {data:aiZ} (h:l7 p.1 p.2 data):fM ⟨p.1,p.2,(dZ bO (fC p.1).1 data).1⟩/\xL (dZ bO (fC p.1).1 data).1=data:=by
 unfold l7 at h
 simp only[Ab,aiA]at h
 obtain⟨h1,h2,h3⟩:=h
 obtain⟨tn,T,aa,hT⟩:=wn5 h1
 have ab:bO.getD tn eQ=T:=by grind
 have cQ:=Vg tn data
 rw[aa]at h2 h3⊢
 rw[B0,ab]at h3
 have hk:=Lu tn T hT (dZ bO tn data).1 (by rw[h3])
 rw[h3]at hk
 refine⟨⟨(by grind),h1,cQ.2⟩, ?_⟩
 obtain⟨hl,ad⟩:=A4.1 hT
 simp_all[dZ,xd5]
theorem VH {U:Type} {p q:Pl} {v:U} (h:q≠p): ∀{W:List (Pl×U)},dP p (W++ [(q,v)])=dP p W
 | []=>by grind[dP]
 |e::W=>by
  rw[Bt,dP,dP,VH h]
theorem VI {U:Type} {p q:Pl} {v:U}: ∀{W:List (Pl×U)} {i:Nat} {u:U},dP p W=some (i,u)->(dP q (W.set i (p,v))).map (·.2)=if q=p then some v else(dP q W).map (·.2)
 | [],i,u,h=>by trivial
 |e::W,i,u,h=>by
  rw[dP]at h
  by_cases c:e.1=p
  .rw[aiv c]at h
   simp only[aiy,aiF]at h
   obtain⟨rfl,rfl⟩:=h
   rw[Cf,dP,dP]
   grind
  .rw[aiu c,Av]at h
   obtain⟨⟨j,w⟩,h1,h2⟩:=h
   simp only[aiF]at h2
   obtain⟨rfl,rfl⟩:=h2
   rw[By,dP,dP]
   by_cases d:e.1=q
   .grind
   .rw[aiu d,aiu d,Option.map_map,Option.map_map]
    exact VI h1
theorem Pa (m:Mp U) (p q:Pl) (v:U):(m.put p v).get q=if q=p then some v else m.get q:=by
 unfold Mp.get Mp.put Mp.at
 cases h:dP p m.W with
 |none=>
  simp only
  by_cases d:q=p
  .subst d
   rw[Lp h,aiv rfl];rfl
  .rw[VH (by grind),aiu d]
 |some w=>grind[VI]
theorem kY {m:Mp U}:m.get p=none↔m.at p=none:=by
 grind[Mp.get,Option.map_eq_none_iff]
def vp (s:List (Pl×aiZ)×List Ln) (q:Pl×aiZ):List (Pl×aiZ)×List Ln:=
 if(s.1.any λe=>e.1==q.1)=true then s else(s.1++ [q],if l7 q.1.1 q.1.2 q.2=true then xo s.2 ⟨q.1.1,q.1.2,(dZ bO (fC q.1.1).1 q.2).1⟩else s.2)
structure oD (n:Nat) (s:List (Pl×aiZ)×List Ln) (m:M3):Prop where
 same:m.1=m.2.1
 now:cO m.2.1 s.2
 sn:m.2.2.ok
 seen: ∀p,m.2.2.get p=none↔(s.1.any λe=>e.1==p)=false
 O4: ∀p v,m.2.2.get p=some v->1<=v/\v<=n
 lines: ∀x∈s.2,xp x/\(x.at,xL x.v)∈s.1
 rows: ∀q∈s.1,l7 q.1.1 q.1.2 q.2=true-> ∃x∈s.2,x.at=q.1/\xL x.v=q.2
 len:s.2.length<=n
theorem oD.step {n:Nat} {s:List (Pl×aiZ)×List Ln} {m:M3} (h:oD n s m) (q:Pl×aiZ):oD (n+1) (vp s q) (BD q.1 q.2 m):=by
 obtain⟨p,data⟩:=q
 obtain⟨a,b,c⟩:=m
 obtain⟨se,out⟩:=s
 obtain⟨h1,h2,h3,h4,h6,h5,h7,h8⟩:=h
 simp only at h1 h2 h3 h4 h5 h6 h7 h8
 subst h1
 have aa: ∀w:Int,1<=w->w<=(n:Int)+1-> ∀q v,(c.put p w).get q=some v->1<=v/\v<=((n+1:Nat):Int):=(by grind[Pa])
 unfold vp BD
 simp only
 cases hs:se.any λe=>e.1==p with
 |true=>
  have hc:c.get p≠none:=(by grind)
  obtain⟨v,hv⟩:=Option.ne_none_iff_exists'.1 hc
  have ad:lG c p=v:=by unfold lG;grind
  have af:=h6 p v hv
  rw[aiv rfl,aiu om,ad]
  refine⟨rfl,h2,Mp.jf h3 _ _,λq=> ?_,aa _ om om,h5,h7,by grind⟩
  grind[Pa]
 |false=>
  have hg:=(h4 p).2 hs
  have ad:lG c p=0:=by unfold lG;grind
  have ab: ∀q,(c.put p (0+1)).get q=none↔((se++ [(p,data)]).any λe=>e.1==q)=false:=(by grind[Pa])
  rw[aiu sm,ad]
  by_cases hr:l7 p.1 p.2 data=true
  .rw[aiv hr,aiv (by grind)]
   obtain⟨hl,hd⟩:=VG hr
   have ha:jF out p=false:=by
    cases e:jF out p with
    |false=>rfl
    |true=>
     obtain⟨x,hx,ah⟩:=Ac.1 (gb.1 e)
     grind
   have hn:=h2.ins hl ha
   rw[show(Ln.mk p.1 p.2 (dZ bO (fC p.1).1 data).1).at=p from rfl,hd]at hn
   refine⟨rfl,hn,Mp.jf h3 _ _,ab,aa _ om om,λx hx=> ?_,λq hq ae=> ?_, ?_⟩
   .rcases Ae.1 ((BE _ _).mem_iff.1 hx)with rfl|hx
    .refine⟨?_,List.mem_append_right _ (B2.2 ?_)⟩
     .show l7 p.1 p.2 (xL _)=true
      grind
     .show(p,xL _)=(p,data)
      rw[hd]
    grind
   .rcases Af.1 hq with hq|hq
    .grind[BE]
    .rw[B2]at hq
     subst hq
     exact⟨_,(BE _ _).mem_iff.2 (B1 ..),rfl,hd⟩
   .rw[(BE _ _).length_eq]
    grind
  .rw[aiu hr,aiu (by grind)]
   refine⟨rfl,h2,Mp.jf h3 _ _,ab,aa _ om om,(by grind),λq hq ae=> ?_,by grind⟩
   grind
theorem VJ:oD 0 ([],[]) (vl _,vl _,vl _):=by
 refine⟨rfl,⟨UT _,List.Pairwise.nil,List.Perm.nil,sm⟩,UT _,λp=> ?_,λp v h=> ?_,sm,sm,sm⟩
 .exact⟨λ_=>rfl,λ_=>rfl⟩
 trivial
end Go.Proofs.YtplackkccmeioaaGreat
