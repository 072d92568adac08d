/-
  What the document lays of one range is that range's part of what is otherwise now. Used by the walk of the document's Run.
  Conditions: as each theorem states them.
-/
import Derived.Test.YtplackkccmeioaaGreatKAAN
import Derived.Test.YtplackkccmeioaaGreatKAAF
import Derived.Test.YtplackkccmeioaaGreatKAAK
import Derived.Test.YtplackkccmeioaaGreatKAAG
set_option maxHeartbeats 8000000
namespace Go.Proofs.YtplackkccmeioaaGreat
open Go Go.Vx R Go.Proofs.Tryz
set_option maxRecDepth 100000
structure Ln where
 r:Int
 k:aiA
 v:List bK
variable {U:Type}{b:Mp aiA}{W:List (Pl×U)}{bs:aiB}{p:Pl}{seen:aiB}{r:Int}{st:bW}
@[go_sem] def Ln.row (x:Ln):List V:= [.int .i64 x.r,.str x.k,.sl .ro (x.v.map bK.row)]
def Ln.at (x:Ln):Pl:=(x.r,x.k)
def xY (a b:Pl):Bool:=decide (a.1<b.1)||(decide (a.1=b.1)&&Op.bytesLess a.2 b.2)
theorem Lm (a:Pl):xY a a=false:=by simp[xY,Lf]
theorem Ip {a b c:Pl} (h:xY a b) (g:xY b c):xY a c=true:=by
 simp only[xY,Ce,Ac,ai7]at h g⊢
 rcases h with h|⟨h,h'⟩<;>rcases g with g|⟨g,g'⟩
 .exact .inl om
 .exact .inl om
 .exact .inl om
 .exact .inr ⟨om,Ik _ _ _ h' g'⟩
theorem Iq (a b:Pl):xY a b=true\/a=b\/xY b a=true:=by
 simp only[xY,Ce,Ac,ai7]
 rcases aiw a.1 b.1 with h|h|h
 .exact .inl (.inl h)
 .rcases ON a.2 b.2 with g|g|g
  .exact .inl (.inr ⟨h,g⟩)
  .exact .inr (.inl (Prod.ext h g))
  .exact .inr (.inr (.inr ⟨h.symm,g⟩))
 .exact .inr (.inr (.inl h))
theorem UW {a b:Pl} (h:xY a b):xY b a=false:=by
 cases q:xY b a
 .rfl
 .have:=Ip h q;rw[Lm]at this;cases this
def iB (l:List Pl):Prop:=l.Pairwise λa b=>xY a b=true
def xr (l:List Ln) (x:Ln):List Ln:=l.takeWhile (λy=>xY y.at x.at)++x::l.dropWhile (λy=>xY y.at x.at)
def jD (l:List Ln) (p:Pl):Bool:=l.any λx=>x.at==p
def pq (t:Int) (st:bW) (x:Ln):Bool:=
 (wA t st).any (λg=>(xF t g).1==x.r)&&(!Op.bytesLess x.k (nP bO t st).1&&Op.bytesLess x.k (nP bO t st).2)
def uh (T:bL) (st:bW):List Ln->List Ln->List Ln×Int
 |acc,[]=>(acc,0)
 |acc,x::l=>if(gN T x.v st.cE).2≠0 then([],(gN T x.v st.cE).2)else uh T st (if Eu (gN T x.v st.cE).1=true then acc++ [x]else acc) l
def gh (t:Int) (T:bL) (st:bW) (l:List Ln):List Ln×Int:=
 if st.dP=true then uh T st [] (l.filter (pq t st))else(l.filter (pq t st),0)
def eE (T:bL) (row:List bK):List bJ->List bK->List bK×Int
 | [],acc=>(acc,0)
 |e::l,acc=>if(gN T row e).2≠0 then([],(gN T row e).2)else eE T row l (acc++ [(gN T row e).1])
def gK (t:Nat) (T:bL):List (List bJ)->List Ln->List Ln×Int
 | [],l=>(l,0)
 |r::rs,l=>
  if(eE eQ [] r []).2≠0 then([],(eE eQ [] r []).2)
  else if(fo t T (eE eQ [] r []).1).2.2≠0 then([],(fo t T (eE eQ [] r []).1).2.2)
  else if jD l ((fo t T (eE eQ [] r []).1).1,(fo t T (eE eQ [] r []).1).2.1)=true then([],18)
  else gK t T rs (xr l ⟨(fo t T (eE eQ [] r []).1).1,(fo t T (eE eQ [] r []).1).2.1,(eE eQ [] r []).1⟩)
def gB (T:bL) (oz:List bK):List ct->List bK->List bK×Int
 | [],row=>(row,0)
 |x::l,row=>if(gN T oz x.e).2≠0 then([],(gN T oz x.e).2)else gB T oz l (row.set (cU T x.name).toNat (gN T oz x.e).1)
def jy (l:List Ln) (p:Pl) (row:List bK):List Ln:=l.map λy=>if y.at=p then⟨y.r,y.k,row⟩else y
def gP (T:bL) (cG:List ct):List Ln->List Ln->List Ln×Int
 | [],l=>(l,0)
 |x::m,l=>
  if(gB T x.v cG x.v).2≠0 then([],(gB T x.v cG x.v).2)
  else if ff T.cm (gB T x.v cG x.v).1≠0 then([],ff T.cm (gB T x.v cG x.v).1)
  else gP T cG m (jy l x.at (gB T x.v cG x.v).1)
def jS:List Ln->List Ln->List Ln
 | [],l=>l
 |x::m,l=>jS m (l.filter λy=> !decide (y.at=x.at))
def AW (items:List cO):Bool:=items.any λx=>x.kind==3||x.kind==4
def ki (T:bL) (e:bJ):List Ln->bK->bK×Int
 | [],acc=>(acc,0)
 |x::l,acc=>
  if(gN T x.v e).2≠0 then(zeroV,(gN T x.v e).2)
  else if(gN T x.v e).1.kind=0 then ki T e l acc
  else if(fk (acc.n+(gN T x.v e).1.n)).2≠0 then(zeroV,(fk (acc.n+(gN T x.v e).1.n)).2)
  else ki T e l ⟨2,(fk (acc.n+(gN T x.v e).1.n)).1,[]⟩
def rk (T:bL) (l:List Ln):List cO->List bK->List bK×Int
 | [],acc=>(acc,0)
 |x::xs,acc=>
  if x.kind=4 then(if(ki T x.e l zeroV).2≠0 then([],(ki T x.e l zeroV).2)else rk T l xs (acc++ [(ki T x.e l zeroV).1]))
  else rk T l xs (acc++ [⟨2,l.length,[]⟩])
def Ir (gt:Ln->Bool) (out:List Ln) (x:Ln):List Ln:=(out.reverse.dropWhile gt).reverse++x::(out.reverse.takeWhile gt).reverse
def rl (c:Nat) (down:Bool) (x y:Ln):Int:=if down=true then -(jx (x.v.getD c zeroV) (y.v.getD c zeroV))else jx (x.v.getD c zeroV) (y.v.getD c zeroV)
def pt (c:Nat) (down:Bool) (l:List Ln):List Ln:=l.foldl (λout x=>Ir (λy=>decide (0<rl c down y x)) out x) []
def lK (bS:Int) (l:List Ln):List Ln:=if 0<=bS then l.take bS.toNat else l
def pv (T:bL) (items:List cO):List Ln->List (List bK)->List (List bK)×Int
 | [],acc=>(acc,0)
 |x::l,acc=>
  if(items.head?.map (·.kind))=some 1 then pv T items l (acc++ [x.v])
  else if(eE T x.v (items.map (·.e)) []).2≠0 then([],(eE T x.v (items.map (·.e)) []).2)
  else pv T items l (acc++ [(eE T x.v (items.map (·.e)) []).1])
structure Ot where
 count:Int
 rows:List (List bK)
def Ot.row (x:Ot):List V:= [.sl .ro (x.rows.map λr=> [.sl .ro (r.map bK.row)]),.int .i64 x.count]
def lL (T:bL) (st:bW) (l:List Ln):Ot×Int:=
 if AW st.items=true then(if(rk T l st.items []).2≠0 then(⟨0,[]⟩,(rk T l st.items []).2)else(⟨0,[(rk T l st.items []).1]⟩,0))
 else
  let m:=lK st.bS (if 0<=cU T st.order then pt (cU T st.order).toNat st.down l else l)
  if(pv T st.items m []).2≠0 then(⟨0,[]⟩,(pv T st.items m []).2)else(⟨0,(pv T st.items m []).1⟩,0)
def la (st:bW) (l:List Ln):Ot×List Ln×Int:=
 let t:=(xK st.table).toNat
 let T:=bO.getD t eQ
 if st.kind=2 then(if(gK t T st.rows l).2≠0 then(⟨0,[]⟩,[],(gK t T st.rows l).2)else(⟨st.rows.length,[]⟩,(gK t T st.rows l).1,0))
 else if(gh t T st l).2≠0 then(⟨0,[]⟩,[],(gh t T st l).2)
 else if st.kind=1 then((lL T st (gh t T st l).1).1,l,(lL T st (gh t T st l).1).2)
 else if st.kind=3 then
  (if(gP T st.cG (gh t T st l).1 l).2≠0 then(⟨0,[]⟩,[],(gP T st.cG (gh t T st l).1 l).2)else(⟨(gh t T st l).1.length,[]⟩,(gP T st.cG (gh t T st l).1 l).1,0))
 else(⟨(gh t T st l).1.length,[]⟩,jS (gh t T st l).1 l,0)
def lM:List bW->Nat->List Ot->List Ln->(Int×Int×List Ot)×List Ln
 | [],_,acc,l=>((0,0,acc),l)
 |x::ss,i,acc,l=>if(la x l).2.2≠0 then(((la x l).2.2,(i:Int),[]),[])else lM ss (i+1) (acc++ [(la x l).1]) (la x l).2.1
def fD (cR:dZ) (l:List Ln):(Int×Int×List Ot)×List Ln:=
 if(oy cR).2≠0 then(((oy cR).2,(oy cR).1,[]),l)else if(lM cR.stmts 0 [] l).1.1≠0 then((lM cR.stmts 0 [] l).1,l)else lM cR.stmts 0 [] l
structure Wr where
 p:Pl
 drop:Bool
 data:aiA
def kV (l:List Wr) (w:Wr):List Wr:=l.takeWhile (λy=>xY y.p w.p)++w::l.dropWhile (λy=>xY y.p w.p)
def jd (p5 now:List Ln):List Wr:=
 (now.filter λx=> !(p5.any λy=>decide (y.at=x.at)&&decide (xL y.v=xL x.v))).foldl (λl x=>kV l ⟨x.at,false,xL x.v⟩)
  ((p5.filter λx=> !jD now x.at).foldl (λl x=>kV l ⟨x.at,true,[]⟩) [])
theorem Gr {cm:List fy} {row:List bK} (hc:cm.length<=20) (hv: ∀v∈row,v.ok) (h:ff cm row=0):iY row:=by
 have hl:=xo h
 refine⟨om,λv aa=> ?_,hv⟩
 rcases OP (Uw h v aa)with ⟨_,_,h3⟩|⟨_,_,h3⟩|⟨_,h3⟩|⟨_,_,h3⟩
 all_goals grind
theorem xu6 (tn:Nat) (T:bL) (hT:bO[tn]? =some T) (row:List bK):ub 3 tn T row (xF tn)=fo tn T row:=by
 unfold ub fo
 by_cases h:ff T.cm row≠0
 .rw[ai2 h,ai2 h]
 .rw[ai1 h,ai1 h]
  have hl:=xo (Classical.not_not.1 h)
  have e0:row.headD v0=row.getD 0 zeroV:=by cases row<;>rfl
  rw[e0]
  have ev:v0=zeroV:=rfl
  rw[ev]
  obtain⟨aa,ab⟩:=A4.1 hT
  have h3:tn<3:=aa
  unfold Gq xF
  generalize row.getD 0 zeroV=x
  match tn,h3 with
  |0,_=>
   have hp:T.place=0:=by cases hT;decide
   simp only[hp,aib,true_and]
   by_cases q0:x.n=0
   .simp[q0,show min (max (0:Int) (-1)) 4=0 by decide]
   .by_cases q1:x.n=1
    .simp[q1,show min (max (1:Int) (-1)) 4=1 by decide]
    .have n0: ¬min (max x.n (-1)) 4=0:=om
     have n1: ¬min (max x.n (-1)) 4=1:=om
     simp[q0,q1,n0,n1]
  |1,_=>
   have hp: ¬T.place=0:=by cases hT;decide
   simp
  |2,_=>
   have hp: ¬T.place=0:=by cases hT;decide
   simp
theorem UX (tn:Nat) (T:bL) (hT:bO[tn]? =some T) (row:List bK) (hr:row.length<=maxLen) (hv: ∀v∈row,v.ok):Pure prog 104 [dG bO,.int .i64 tn,.sl .ro (row.map bK.row)] (uc (fo tn T row)):=by
 obtain⟨aa,ab⟩:=A4.1 hT
 have hk:=(by decide: ∀T∈bO,0<=T.key/\T.key<T.cm.length/\T.cm.length<=20) T (by grind)
 rw[<-xu6 tn T hT row]
 exact xA9 xJ bO tn aa T ab row hr (Gr hk.2.2 hv) dC om (xF tn) λr h1 h2 h3=>by
  have ad:tn<3:=aa
  exact H0 tn r om om
def fR:Ob:= .box [.sl .ro xJ,.sl .ro (bO.map bL.row),.mp 0,.mp 1,.mp 2]
def dm (a b:Mp aiA) (c:Mp Int):St:= [a.ob .str,b.ob .str,c.ob (V.int .i64),fR]
theorem UY {U:Type} {g:U->V} (hg: ∀v,jC 0 (g v)) (n:Nat): ∀W:List (Pl×U),(gA g W).all (jC n)=true
 | []=>rfl
 |e::W=>by
  rw[gA,Bt,Bt,UY hg n W,Ri om (hg e.2)]
  rfl
theorem UZ {g:U->V} (hg: ∀v,jC 0 (g v)) (n:Nat) (m:Mp U):bT n (m.ob g)=true:=UY hg n m.W
theorem wC (n:Nat) (h:3<=n) (a b:Mp aiA) (c:Mp Int):(dm a b c).all (bT n)=true:=by
 have h0:decide (0<n)=true:=(by grind)
 have h1:decide (1<n)=true:=(by grind)
 have h2:decide (2<n)=true:=(by grind)
 simp only[dm,Bt,D9,Db,UZ (g:=V.str) (λ_=>rfl),UZ (g:=V.int .i64) (λ_=>rfl),Bc]
 simp_all[fR,bT,cS,cN]
def lN (c:Mp Int) (p:Pl):Int:=(c.get p).getD 0
def ma (dw:Int) (key data:aiA):Bool:=
 decide ((fC dw).2.2=0)&&(decide ((ee bO (fC dw).1 data).2=0)&&decide (fo (fC dw).1.toNat (bO.getD (fC dw).1.toNat eQ) (ee bO (fC dw).1 data).1=(dw,key,0)))
def rp (m:Mp aiA×Mp aiA×Mp Int):St:=dm m.1 m.2.1 m.2.2
abbrev M3:=Mp aiA×Mp aiA×Mp Int
def AX (p:Pl) (data:aiA) (m:M3):M3:=
 if lN m.2.2 p=0/\ma p.1 p.2 data=true then(m.1.put p data,m.2.1.put p data,m.2.2.put p (lN m.2.2 p+1))else(m.1,m.2.1,m.2.2.put p (lN m.2.2 p+1))
theorem xS8 {u:Nat} (h:u<18446744073709551616): -9223372036854775808<=kN u/\kN u<=9223372036854775807:=by
 grind[kN]
theorem U0:(v0:bK).ok:=⟨dC,dC,dC⟩
theorem OX {k n:Int} {s:aiA} (h1: -9223372036854775808<=k/\k<=9223372036854775807) (h2: -9223372036854775808<=n/\n<=9223372036854775807) (h3:s.length<=maxLen):(bK.mk k n s).ok:=⟨h1,h2,h3⟩
theorem xz3: ∀b:aiA,(lG b).v.ok
 | []=>U0
 |c::rest=>by
  grind[lG,pd,U0,vj,OX,xS8,KO,maxLen]
theorem U1: ∀(n:Nat) (b:aiA) (l:List bK),iA n b=some l->l.length=n/\ ∀v∈l,v.ok
 |0,b,l,h=>by
  rw[iA]at h
  grind
 |n+1,b,l,h=>by
  rw[iA]at h
  split at h
  .rw[Aw]at h
   obtain⟨l',h1,rfl⟩:=h
   obtain⟨h2,h3⟩:=U1 n _ l' h1
   refine⟨by grind,λv hv=> ?_⟩
   rcases Ae.1 hv with rfl|hv
   all_goals grind[xz3]
  grind
theorem U3 (t:Nat) (data:aiA):(ee bO t data).1.length<=maxLen/\ ∀v∈(ee bO t data).1,v.ok:=by
 have h0:([]:List bK).length<=maxLen/\ ∀v∈([]:List bK),v.ok:=sm
 unfold ee
 split
 .rename_i h
  have hc:=(by decide: ∀T∈bO,T.cm.length<=maxLen) (bO[(t:Int).toNat]'om) sm
  unfold R.jP
  split
  .unfold tP
   grind[U1]
  omega
 omega
theorem wn4 (g:Nat) (hg:g<1000) (key data:aiA) (hd:data.length<=cH) (a b:Mp aiA) (sn:Mp Int) (ha:a.ok) (ai:b.ok) (hs:sn.ok) (a1:sn.at (g,key)=none->a.at (g,key)=none/\b.at (g,key)=none) (av: ∀i v,sn.at (g,key)=some (i,v)->1<=v/\v<=1000000):
  bN prog 58 [.ptr 3 0,.int .i64 g,.agg [.str key,.str data]] (dm a b sn) (λr s=>r= .cz []/\s=rp (AX (g,key) data (a,b,sn))):=by
 obtain⟨M,hM⟩:=eX (AX (g,key) data (a,b,sn))
 rw[hM]
 have ret: ∀(a' b':Mp aiA) (aj:Mp Int) (Il:St),M=(a',b',aj)->cw (some (.cz [])) 4 (λr s=>r= .cz []/\s=rp M) (a'.ob .str::b'.ob .str::aj.ob (V.int .i64):: .box [.sl .ro xJ,.sl .ro (bO.map bL.row),.mp 0,.mp 1,.mp 2]::Il):=λa' b' aj Il h=>by
  subst h
  exact yZ 4 rfl rfl (wC 4 dC a' b' aj) om (zC rfl) (by trivial)
 have a6:=H2 g hg
 refine iV 4 func58 ntmps58 results58 λc hc hb=> ?_
 refine zA ?_
 simp[go_sem,dm,fR]
 refine pC a6 ?_
 simp[go_sem,Gc]
 obtain⟨ob,ao⟩: ∃ob:Ob->R,ob=λo=>xZ (some (ue,.int .i64 0)) [o] (.mp 0) (ia (g,key)) false:=⟨_,rfl⟩
 obtain⟨k1,aw⟩:=eX (lN sn (g,key))
 cases aa:sn.at (g,key)with
 |none=>
  have ad:=Mp.get_none aa
  have ae:k1=0:=by rw[<-aw];unfold lN;grind
  subst ae
  refine Nt [(5,1),(7,3)] ⟨0,6,[2],some (2,ob)⟩ sm (by rfl) kR ?_
  simp[go_sem]
  refine RE (kv:=ia (g,key)) (id:=2) (n0:=⟨0,6,[2],some (2,ob)⟩) (by rfl) (by rfl) Tryz.pV ao rfl sm (Li (m:=sn) rfl (g,key) false) ?_
  simp[go_sem,ad]
  refine Kc ?_ ?_
  .simp[go_sem,UR hs aa]
   refine⟨sm,λ_=> .inr ?_⟩
   exact Kp.zl (k:=⟨0,6,[2],some (2,ob)⟩) (I:= [a.ob .str,b.ob .str,sn.ob (V.int .i64),fR,.box [.str key,.str data],.box [.int .i64 g,.str key]]) (id:=2) (o:=sn.ob (V.int .i64)) (o':=(sn.mM (g,key) 0).ob (V.int .i64)) rfl rfl (λq hq _=>by cases hq;rw[ao];first|done|exact xE3 rfl aa)
  simp[go_sem,UR hs aa,UU hs]
  obtain⟨i1,aq⟩:=Mp.ug sn (g,key) 1
  by_cases he:(fC g).2.2=0
  rotate_left
  .have ab:((fC g).2.2 !=0)=true:=by grind
   refine yI [] 6 sm (by rfl) kR ?_
   simp[go_sem,ab]
   exact ret a b _ _ (by grind[AX,ma])
  have ab:((fC g).2.2 !=0)=false:=by grind
  have e1:(sn.put (g,key) 1).ob (V.int .i64)= .mp (gA (V.int .i64) (sn.put (g,key) 1).W) (sn.put (g,key) 1).bs (sn.put (g,key) 1).cV:=rfl
  refine yI [] 6 sm (by rfl) kR ?_
  simp[go_sem,ab,e1,po,aq,lv,lU]
  rw[<-e1]
  obtain⟨ax,ay⟩:=a1 aa
  obtain⟨tn,T,a7,hT⟩: ∃(tn:Nat) (T:bL),(fC g).1=(tn:Int)/\bO[tn]? =some T:=by
   unfold fC at he⊢
   split at he<;>rename_i q0
   .rw[ai2 q0];exact⟨0,_,rfl,rfl⟩
   .rw[ai1 q0]
    split at he<;>rename_i q1
    .rw[ai2 q1];exact⟨0,_,rfl,rfl⟩
    .rw[ai1 q1]
     split at he<;>rename_i q2
     .rw[ai2 q2];exact⟨1,_,rfl,rfl⟩
     .rw[ai1 q2]
      split at he<;>rename_i q3
      .rw[ai2 q3];exact⟨2,_,rfl,rfl⟩
      grind
  have aE:bO.getD tn eQ=T:=by grind
  have al:=S4 xJ bO tn data hd dC
  have af:=U3 tn data
  obtain⟨rf,a8⟩:=eX (ee bO tn data)
  rw[a8]at al af
  have an:=UX tn T hT rf.1 af.1 af.2
  obtain⟨ks,aA⟩:=eX (fo tn T rf.1)
  rw[aA]at an
  have aB:ma g key data=(decide (rf.2=0)&&decide (ks=(((g:Nat):Int),key,0))):=by
   grind[ma]
  have aC:M=if ma g key data=true then(a.put (g,key) data,b.put (g,key) data,sn.put (g,key) 1)else(a,b,sn.put (g,key) 1):=by
   grind[AX]
  rw[aB]at aC
  obtain⟨kr,kk,ke⟩:=ks
  refine zA ?_
  refine yI [(7,0)] 6 sm (by rfl) kR ?_
  simp[go_sem,a7]
  refine pD al ?_
  simp[go_sem,eH]
  by_cases r0:rf.2=0
  rotate_left
  .have ar:(rf.2 !=0)=true:=by grind
   simp[go_sem,ar]
   exact ret a b _ _ (by grind)
  have ar:(rf.2 !=0)=false:=by grind
  simp[go_sem,ar]
  refine pC an ?_
  simp[go_sem,uc]
  by_cases k0:ke=0
  rotate_left
  .have ah:(ke==0)=false:=by grind
   simp[go_sem,ah]
   exact ret a b _ _ (by grind)
  have ah:(ke==0)=true:=by grind
  by_cases k2:kr=((g:Nat):Int)
  rotate_left
  .have ak:(kr==((g:Nat):Int))=false:=by grind
   simp[go_sem,ah,ak]
   exact ret a b _ _ (by grind)
  have ak:(kr==((g:Nat):Int))=true:=by grind
  by_cases k3:kk=key
  rotate_left
  .have au:(kk==key)=false:=by grind
   simp[go_sem,ah,ak,au]
   exact ret a b _ _ (by grind)
  have au:(kk==key)=true:=by grind
  simp[go_sem,ah,ak,au]
  refine Nt [(14,3),(16,3),(17,3),(19,3)] ⟨0,6,[0,1],none⟩ sm (by rfl) kR ?_
  simp[go_sem]
  have keep: ∀(τ:St) (i:Nat) (o o':Ob),([0,1]:aiB).contains i=true->τ[i]? =some o->Kp.of ⟨0,6,[0,1],none⟩ (τ.set i o')=Kp.of ⟨0,6,[0,1],none⟩ τ:=(by grind[Kp.zl])
  refine Kc ?_ ?_
  .simp[go_sem,Lk ha ax]
   refine⟨sm,λ_=> .inr ?_⟩
   rfl
  simp[go_sem,Lk ha ax]
  refine RC ?_ ?_
  .simp[go_sem,Ll ha]
   refine⟨sm,λ_=> .inr ?_⟩
   rfl
  simp[go_sem,Ll ha]
  refine Kc ?_ ?_
  .simp[go_sem,Lk ai ay]
   refine⟨sm,λ_=> .inr ?_⟩
   rfl
  simp[go_sem,Lk ai ay]
  refine RC ?_ ?_
  .simp[go_sem,Ll ai]
   refine⟨sm,λ_=> .inr ?_⟩
   rfl
  simp[go_sem,Ll ai]
  exact ret (a.put (g,key) data) (b.put (g,key) data) _ _ (by grind)
 |some q=>
  obtain⟨i,v⟩:=q
  obtain⟨aF,aG⟩:=av i v aa
  have ad:=Mp.get_some aa
  have ae:k1=v:=by rw[<-aw];unfold lN;grind
  subst ae
  have aD:IntKind.i64.wrap (k1+1)=k1+1:=(by grind[bX])
  have az:M=(a,b,sn.put (g,key) (k1+1)):=by
   rw[<-hM];unfold AX;grind
  refine Nt [(5,1),(7,3)] ⟨0,6,[2],some (2,ob)⟩ sm (by rfl) kR ?_
  simp[go_sem]
  refine RE (kv:=ia (g,key)) (id:=2) (n0:=⟨0,6,[2],some (2,ob)⟩) (by rfl) (by rfl) Tryz.pV ao rfl sm (Li (m:=sn) rfl (g,key) false) ?_
  simp[go_sem,ad,aD]
  refine Kc ?_ ?_
  .simp[go_sem,UT hs aa]
   trivial
  simp[go_sem,UT hs aa,yC2 hs aa]
  obtain⟨i1,aq⟩:=Mp.ug sn (g,key) (k1+1)
  by_cases he:(fC g).2.2=0
  rotate_left
  .have ab:((fC g).2.2 !=0)=true:=by grind
   refine yI [] 6 sm (by rfl) kR ?_
   simp[go_sem,ab]
   exact ret a b _ _ az
  have ab:((fC g).2.2 !=0)=false:=by grind
  have e1:(sn.put (g,key) (k1+1)).ob (V.int .i64)= .mp (gA (V.int .i64) (sn.put (g,key) (k1+1)).W) (sn.put (g,key) (k1+1)).bs (sn.put (g,key) (k1+1)).cV:=rfl
  have h1:decide (k1+1>1)=true:=(by grind)
  have aH:decide (1<k1+1)=true:=om
  refine yI [] 6 sm (by rfl) kR ?_
  simp[go_sem,ab,e1,po,aq,lv,lU,h1]
  exact ret a b _ _ az
structure fM (x:Ln):Prop where
 jA: ∃(tn:Nat) (T:bL),(fC x.r).1=(tn:Int)/\bO[tn]? =some T/\ff T.cm x.v=0
 err:(fC x.r).2.2=0
 ok: ∀v∈x.v,v.ok
structure cM (b:Mp aiA) (l:List Ln):Prop where
 ok:b.ok
 je:iB (l.map Ln.at)
 perm:b.W.Perm (l.map λx=>(x.at,xL x.v))
 rows: ∀x∈l,fM x
theorem iB.nodup {l:List Pl} (h:iB l):l.Nodup:=h.imp (by grind[Lm])
theorem AY (l:List Ln) (x:Ln):(xr l x).Perm (x::l):=by
 grind[xr,Cl,De]
theorem gi {l:List Ln}:jD l p=true↔p∈l.map Ln.at:=by
 grind[jD]
theorem U4 {p:Pl}: ∀{l:List Ln},iB (l.map Ln.at)->p∉l.map Ln.at-> ∀y∈l.dropWhile (λy=>xY y.at p),xY p y.at=true
 | [],_,_,y,hy=>by simp_all
 |z::l,hr,hn,y,hy=>by
  unfold iB at hr
  rw[Ah,C9]at hr
  rw[List.dropWhile_cons]at hy
  by_cases q:xY z.at p=true
  .rw[ai2 q]at hy
   exact U4 (l:=l) hr.2 (by grind) y hy
  .rw[ai1 q]at hy
   have hz:xY p z.at:=by
    grind[Iq]
   rcases Ae.1 hy with rfl|hy
   .exact hz
   .exact Ip hz (by grind)
theorem OY {U:Type} {p:U->Bool}: ∀{l:List U},∀y∈l.takeWhile p,p y=true
 | [],y,hy=>by simp_all
 |z::l,y,hy=>by
  rw[List.takeWhile_cons]at hy
  by_cases q:p z=true
  .rw[ai2 q]at hy
   rcases Ae.1 hy with rfl|hy
   .exact q
   .exact OY (l:=l) y hy
  grind
theorem xg8 {l:List Ln} {x:Ln} (h:iB (l.map Ln.at)) (hn:jD l x.at=false):iB ((xr l x).map Ln.at):=by
 have aa:x.at∉l.map Ln.at:=λq=>by rw[gi.2 q]at hn;cases hn
 have hd:=U4 h aa
 have ht: ∀y∈l.takeWhile (λy:Ln=>xY y.at x.at),xY y.at x.at=true:=OY
 have hl:=Cl (p:=λy:Ln=>xY y.at x.at) (l:=l)
 unfold xr
 rw[<-hl]at h
 revert hd ht h
 generalize l.takeWhile (λy:Ln=>xY y.at x.at)=t
 generalize l.dropWhile (λy:Ln=>xY y.at x.at)=d
 intro h hd ht
 unfold iB at h⊢
 rw[Ca,Br]at h
 rw[Ca,Ah,Br,C9]
 grind
theorem cM.gT {l:List Ln} (h:cM b l):b.at p=none↔jD l p=false:=by
 constructor
 .intro q
  cases r:jD l p with
  |false=>rfl
  |true=>
   obtain⟨x,hx,he⟩:=Ab.1 (gi.1 r)
   have:(p,xL x.v)∈b.W:=h.perm.mem_iff.2 (by grind)
   exact absurd rfl (Lh q _ this)
 .intro q
  cases r:b.at p with
  |none=>rfl
  |some w=>
   have hm:(p,w.2)∈b.W:=Bk (xp (W:=b.W) (i:=w.1) (v:=w.2) r)
   obtain⟨x,hx,he⟩:=Ab.1 (h.perm.mem_iff.1 hm)
   have:x.at=p:=(by grind)
   rw[gi.2 (by grind)]at q
   cases q
theorem cM.ins {l:List Ln} (h:cM b l) {x:Ln} (hx:fM x) (hn:jD l x.at=false):cM (b.put x.at (xL x.v)) (xr l x):=by
 have hb:=h.gT.2 hn
 refine⟨Mp.jc h.ok _ _,xg8 h.je hn, ?_,λy hy=> ?_⟩
 .have e:(b.put x.at (xL x.v)).W=b.W++ [(x.at,xL x.v)]:=by grind[Mp.put]
  rw[e]
  have h1:=((AY l x).map λx:Ln=>(x.at,xL x.v)).symm
  refine List.Perm.trans ?_ h1
  rw[Ah]
  exact(List.perm_append_singleton _ _).trans (h.perm.cons _)
 .rcases Ae.1 ((AY l x).mem_iff.1 hy)with rfl|hy
  .exact hx
  .exact h.rows y hy
theorem Lo: ∀(r:List bJ) (acc:List bK),(∀e∈r,jl e)->(∀v∈acc,v.ok)->(eE eQ [] r acc).2=0->(eE eQ [] r acc).1.length=acc.length+r.length/\ ∀v∈(eE eQ [] r acc).1,v.ok
 | [],acc,_,ha,_=>⟨rfl,ha⟩
 |e::r,acc,he,ha,h=>by
  rw[eE]at h⊢
  by_cases q:(gN eQ [] e).2=0
  .rw[ai1 (λh=>h q)]at h⊢
   have hv:(gN eQ [] e).1.ok:=by
    have:=Ur (he e sm) (by rw[<-OQ];exact q)
    rw[OQ]
    exact(Uy this).1
   have ih:=Lo r (acc++ [(gN eQ [] e).1]) (λx hx=>he x (by simp[hx])) (λv aa=>by
    rcases Ak.1 aa with h|h
    .exact ha v h
    .simp at h;subst h;exact hv) h
   exact⟨by rw[ih.1];simp;omega,ih.2⟩
  .rw[ai2 q]at h;exact absurd h q
def dW:List V:= [.sl .full [],.int .i64 0]
def Is (a:Mp aiA) (sn:Mp Int) (OZ:Int) (M:List Ln×Int) (r:V) (s:St):Prop:=
 ∃(b':Mp aiA),s=dm a b' sn/\((M.2≠0/\r= .cz [.agg (Ot.row ⟨0,[]⟩),.int .i64 M.2])\/(M.2=0/\r= .cz [.agg (Ot.row ⟨OZ,[]⟩),.int .i64 0]/\cM b' M.1))
theorem xM6 {k d:aiA} (h:b.at (r,k)=none):Ob.mp (gA V.str b.W++ [.agg [.int .i64 r,.str k],.str d]) (b.bs++ [b.cV]) (b.cV+1)=(b.put (r,k) d).ob V.str:=by
 unfold Mp.put Mp.ob
 rw[h]
 show _=Ob.mp (gA V.str (b.W++ [((r,k),d)])) _ _
 rw[<-UJ]
 rfl
theorem Lp (tn:Nat) (T:bL) (hT:bO[tn]? =some T) (row:List bK) (h:(fo tn T row).2.2=0):ff T.cm row=0/\(fC (fo tn T row).1).1=(tn:Int)/\(fC (fo tn T row).1).2.2=0:=by
 obtain⟨aa,_⟩:=A4.1 hT
 have h3:tn<3:=aa
 unfold fo at h⊢
 by_cases h1:ff T.cm row≠0
 .rw[ai2 h1]at h;exact absurd h h1
 .rw[ai1 h1]at h⊢
  refine⟨Classical.not_not.1 h1, ?_⟩
  unfold Gq
  generalize row.getD 0 zeroV=x at h⊢
  match tn,h3 with
  |0,_=>
   by_cases h2:x.n=0\/x.n=1
   .rw[ai1 (λq=>q.2 h2)]
    rcases h2 with h2|h2
    .simp[xF,fC,h2]
    .simp[xF,fC,h2]
   .rw[ai2 ⟨rfl,h2⟩]at h;cases h
  |1,_=>simp[xF,fC]
  |2,_=>simp[xF,fC]
theorem yV0 (tn:Nat) (T:bL) (hT:bO[tn]? =some T) (st:bW) (a6:k6 st) (a b:Mp aiA) (sn:Mp Int) (l:List Ln) (av:cM b l):
  bN prog 105 [.ptr 3 0,.int .i64 tn,.agg st.row] (dm a b sn) (Is a sn st.rows.length (gK tn T st.rows l)):=by
 obtain⟨R,hR⟩:=eX st.rows
 obtain⟨a7,aw⟩:=a6.rows
 rw[hR]at a7 aw⊢
 generalize hM:gK tn T R l=M
 have bad: ∀(b':Mp aiA) (e:Int) (Il:St),M.2=e->e≠0->cw (some (.cz [.agg [.sl .full [],.int .i64 0],.int .i64 e])) 4 (Is a sn R.length M) (a.ob .str::b'.ob .str::sn.ob (V.int .i64):: .box [.sl .ro xJ,.sl .ro (bO.map bL.row),.mp 0,.mp 1,.mp 2]::Il):=λb' e Il h1 h2=>
  yZ 4 (s:=dm a b' sn) (r:= .cz [.agg (Ot.row ⟨0,[]⟩),.int .i64 e]) rfl rfl (wC 4 dC a b' sn) (A7 _) (yW ⟨wX ⟨zX,zF rfl,tV⟩,xV rfl,tV⟩) ⟨b',rfl,.inl ⟨by rw[h1];exact h2,by rw[h1]⟩⟩
 have ao: ∀(b':Mp aiA) (n:Nat),6<=n->([a.ob .str,b'.ob .str,sn.ob (V.int .i64),.box [.sl .ro xJ,.sl .ro (bO.map bL.row),.mp 0,.mp 1,.mp 2],.box st.row,.box dW]:St).all (bT n)=true:=λb' n hn=>by
  have h:=wC n om a b' sn
  simp only[dm,fR,Bt,D9,Db]at h⊢
  rw[Ac,Ac,Ac]at h⊢
  refine⟨h.1,h.2.1,h.2.2.1, ?_⟩
  rw[Ac]
  exact⟨h.2.2.2,by simp[bT,cS,cN,bW.row,dW]⟩
 have ak: ∀(b':Mp aiA) (k:Nat),([a.ob .str,b'.ob .str,sn.ob (V.int .i64),.box [.sl .ro xJ,.sl .ro (bO.map bL.row),.mp 0,.mp 1,.mp 2],.box st.row,.box dW,.app k 3]:St).all (bT 7)=true:=λb' k=>by
  have h:=ao b' 7 dC
  simp only[Bt,D9,Db]at h⊢
  rw[show bT 7 (.app k 3)=true from rfl,Db]
  exact h
 refine iV 4 func105 ntmps105 results105 λc hc hb=> ?_
 refine zA ?_
 simp[go_sem,dm,fR,hR]
 refine zI (S:=Nat×Mp aiA×List Ln) [0,1,5,6,22,23,24] (λu=> [.ptr 3 0,.int .i64 tn,.ptr 4 0,.ptr 5 0,.sl .ro (R.map λ(l:List bJ)=> [V.sl .ro (l.map bJ.row)]),.int .i64 R.length,.int .i64 u.1])
  (λu=> [a.ob .str,u.2.1.ob .str,sn.ob (V.int .i64),.box [.sl .ro xJ,.sl .ro (bO.map bL.row),.mp 0,.mp 1,.mp 2],.box st.row,.box dW]) (λu=>R.length - u.1)
  (λu=>u.1<=R.length/\cM u.2.1 u.2.2/\gK tn T (R.drop u.1) u.2.2=M) hc hb (0,b,l) ⟨A3 _,av,hM⟩ ?_ ?_
 .exact cc 6 (by simp[go_sem,hR,dW]) rfl (ao b 6 dC) dC (zD sg rfl)
 rintro⟨i,b1,l1⟩ ⟨hi,af,aa⟩
 simp only at hi af aa
 by_cases q:i<R.length
 rotate_left
 .rw[A9 om,gK]at aa
  subst aa
  refine zA ?_
  simp[go_sem,q,hR,dW]
  exact yZ 4 (s:=dm a b1 sn) (r:= .cz [.agg (Ot.row ⟨R.length,[]⟩),.int .i64 0]) rfl rfl (wC 4 dC a b1 sn) (A7 _) (yW ⟨wX ⟨zX,zF rfl,tV⟩,xV rfl,tV⟩) ⟨b1,rfl,.inr ⟨rfl,rfl,af⟩⟩
 have ei:=zU q om
 obtain⟨x,hx⟩:=eX (R[i])
 obtain⟨aG,ax⟩:=aw x (hx▸A8 q)
 have ay:=Lo x [] ax (λv hv=>by cases hv)
 rw[A5 q,hx,gK]at aa
 obtain⟨E,hE⟩:=eX (eE eQ [] x [])
 rw[hE]at aa ay
 refine zA ?_
 simp[go_sem,q,hx]
 refine l7 10 3 dC sg ?_
 refine zI (S:=Nat×List bK) [0,1,5,6,10,22,23,24,28,29,30] (λu=> [.ptr 3 0,.int .i64 tn,.ptr 4 0,.ptr 5 0,.sl (.app 6) (u.2.map bK.row),.sl .ro (R.map λ(l:List bJ)=> [V.sl .ro (l.map bJ.row)]),.int .i64 R.length,.int .i64 i,.sl .ro (x.map bJ.row),.int .i64 x.length,.int .i64 u.1])
  (λu=> [a.ob .str,b1.ob .str,sn.ob (V.int .i64),.box [.sl .ro xJ,.sl .ro (bO.map bL.row),.mp 0,.mp 1,.mp 2],.box st.row,.box dW,.app u.2.length 3]) (λu=>x.length - u.1)
  (λu=>u.1<=x.length/\u.2.length<=u.1/\eE eQ [] (x.drop u.1) u.2=E) hc hb (0,[]) ⟨A3 _,A7 _,hE⟩ ?_ ?_
 .exact cc 7 (by simp[go_sem,dW]) rfl (ak b1 _) dC (zD sg rfl)
 rintro⟨j,acc⟩ ⟨hj,a8,ab⟩
 simp only at hj a8 ab
 by_cases qj:j<x.length
 .have ej:=zU qj om
  obtain⟨e,he⟩:=eX (x[j])
  have aA:=ax e (he▸A8 qj)
  rw[A5 qj,he,eE,OQ]at ab
  have ah:=OM e aA
  obtain⟨kv,aB⟩:=eX (kA e)
  rw[aB]at ab ah
  refine zA ?_
  simp[go_sem,qj,he]
  refine zL ah cB ⟨wN ⟨zF rfl,zX,zF rfl,zF rfl,zF rfl,zX,zX,zX,zF rfl,zF rfl,zF rfl,tV⟩,zK,zP sg (by rw[bJ.bR];rfl)⟩ rfl ?_
  simp[go_sem,fm]
  by_cases q2:kv.2=0
  rotate_left
  .have aq:(kv.2 !=0)=true:=sU q2
   rw[ai2 q2]at ab
   subst ab
   simp only at aa
   rw[ai2 q2]at aa
   simp[go_sem,aq,dW]
   exact bad b1 kv.2 _ (by rw[<-aa]) q2
  have aq:(kv.2 !=0)=false:=sU q2
  rw[ai1 (λh=>h q2)]at ab
  simp[go_sem,aq]
  refine zH ⟨om,zY rfl⟩ ?_
  simp[go_sem,ej]
  exact zJ (j+1,acc++ [kv.1]) ⟨by show x.length - (j+1)<x.length - j;omega,⟨qj,by show(acc++ [kv.1]).length<=j+1;simp;omega,ab⟩,cc 7 (by simp[go_sem,dW]) rfl (ak b1 _) dC (zD sg rfl)⟩
 rw[A9 om,eE]at ab
 subst ab
 obtain⟨_,aj⟩:=ay rfl
 simp only at aa aj
 rw[ai1 (λh=>h rfl)]at aa
 have al:=UX tn T hT acc (by unfold maxLen;omega) aj
 have ai:=Lp tn T hT acc
 obtain⟨⟨kr,kk,ke⟩,aC⟩: ∃ks,fo tn T acc=ks:=⟨_,rfl⟩
 rw[aC]at aa al ai
 simp only at aa ai
 refine zA ?_
 simp[go_sem,qj]
 refine pC al ?_
 simp[go_sem,uc]
 by_cases k0:ke=0
 rotate_left
 .have ar:(ke !=0)=true:=sU k0
  rw[ai2 k0]at aa
  simp[go_sem,ar,dW]
  exact bad b1 ke _ (by rw[<-aa]) k0
 have ar:(ke !=0)=false:=sU k0
 rw[ai1 (λh=>h k0)]at aa
 obtain⟨an,aD,aE⟩:=ai k0
 have aF:=Gr ((by decide: ∀T∈bO,T.cm.length<=20) T (Bk hT)) aj an
 have au:=SZ acc aF
 have eB:b1.ob .str= .mp (gA .str b1.W) b1.bs b1.cV:=rfl
 simp[go_sem,ar]
 cases ae:b1.at (kr,kk)with
 |some w=>
  have hA:jD l1 (kr,kk)=true:=by
   cases r:jD l1 (kr,kk)with
   |true=>rfl
   |false=>rw[af.gT.2 r]at ae;cases ae
  rw[ai2 hA]at aa
  have ad:dQ (kr,kk) b1.W=some w:=ae
  refine yI [] 8 sm kR kR ?_
  simp[go_sem,eB,po,ad,lv,lU,dW]
  rw[<-eB]
  exact bad b1 18 _ (by rw[<-aa]) dC
 |none=>
  have hA:=af.gT.1 ae
  rw[ai1 (by rw[hA];decide)]at aa
  have ad:dQ (kr,kk) b1.W=none:=ae
  have az:=xM6 (d:=xL acc) ae
  have a1:=af.ins (x:=⟨kr,kk,acc⟩) ⟨⟨tn,T,aD,hT,an⟩,aE,aj⟩ hA
  refine yI [] 8 sm kR kR ?_
  simp[go_sem,eB,po,ad,lv,lU]
  refine zA ?_
  refine yI [(6,0)] 8 sm kR kR ?_
  simp[go_sem]
  refine pD au ?_
  simp[go_sem,po,ad,lv,lU,az,ei]
  exact zJ (i+1,b1.put (kr,kk) (xL acc),xr l1 ⟨kr,kk,acc⟩) ⟨by show R.length - (i+1)<R.length - i;omega,⟨q,a1,aa⟩,cc 6 (by simp[go_sem,dW]) rfl (ao _ 6 dC) dC (zD sg rfl)⟩
theorem U5 (l:List bK) (hl:l.length<=10000) (hz:l≠ []):bN prog 95 [.sl .ro (l.map bK.row)] [] (λr s=>r= .cL 0 3 l.length 0 l.length/\s= [.cd (l.map bK.row) 3]):=by
 refine iV 0 func95 ntmps95 results95 λc hc hb=> ?_
 refine uO 7 dC ?_
 refine zA ?_
 have hp:0<l.length:=by cases l with
  |nil=>exact absurd rfl hz
  |cons a l=>simp
 have hu:eK 3 (l.map bK.row):=by
  intro r hr
  obtain⟨v,_,rfl⟩:=Ab.1 hr
  rfl
 simp[go_sem,hp]
 refine zH ⟨om,by simp[eK],hu⟩ ?_
 simp[go_sem]
 exact Hl sm ⟨rfl,rfl⟩
theorem Lq (T:bL) (hT:T.cm.length<=maxLen) (row:List bK) (hv: ∀v∈row,v.ok) (e:bJ) (he:jl e):Pure prog 152 [.agg T.row,.sl .ro (row.map bK.row),.agg e.row] (fm (gN T row e)):=by
 have ao:=KY T hT e he
 have db:= @Ux T row
 generalize hM:gN T row e=M
 unfold gN at hM
 have ret: ∀(v:bK) (e:Int) (I:St),(v,e)=M->cw (some (.cz [.agg v.row,.int .i64 e])) 0 (λr s=>r=fm M/\s= []) I:=λv e I h=>xn h
 refine iV 0 func152 ntmps152 results152 λc hc hb=> ?_
 refine zA ?_
 simp[go_sem]
 refine zL ao cB (zP sg (by rw[bJ.bR];rfl)) rfl ?_
 simp[go_sem,wI]
 by_cases q:(iL T e).2=0
 rotate_left
 .have q':((iL T e).2 !=0)=true:=sU q
  rw[ai2 q]at hM
  simp[go_sem,q']
  exact ret zeroV _ _ hM
 have q':((iL T e).2 !=0)=false:=sU q
 have n1: ¬(iL T e).2≠0:=λh=>h q
 rw[ai1 n1]at hM
 by_cases hlen:row.length=T.cm.length
 rotate_left
 .have h1:((row.length:Int) !=T.cm.length)=true:=by simp;omega
  rw[ai2 (by unfold Ev;rw[ai3 hlen,Dq])]at hM
  simp[go_sem,q',h1]
  exact ret zeroV 9 _ hM
 have h1:((row.length:Int) !=T.cm.length)=false:=by simp;omega
 obtain⟨mr,aj⟩:=eX (Ev T.cm row)
 have aa:=aj
 unfold Ev at aa
 rw[ai4 hlen,Bc]at aa
 rw[aj]at hM db
 simp[go_sem,q',h1]
 refine zI (S:=Nat×bK) [1,3,5,6,29,30,31] (λu=> [.sl .ro (row.map bK.row),.ptr 0 0,.ptr 1 0,.ptr 2 0,.sl .ro (row.map bK.row),.int .i64 row.length,.int .i64 u.1])
   (λu=> [.box T.row,.box e.row,.box u.2.row]) (λu=>row.length - u.1) (λu=>u.1<=row.length/\(((row.zip T.cm).drop u.1).all λp=>Im p.1 p.2)=mr) hc hb (0,zeroV) ⟨A3 _,aa⟩ ?_ ?_
 .exact cc 3 (by simp[go_sem,zeroV]) rfl (by simp[bT,cS,cN,bJ.bR,bL.row,bK.row]) (A3 _) (zD sg rfl)
 rintro⟨i,v0⟩ ⟨hi,hinv⟩
 simp only at hi hinv
 by_cases p:i<row.length
 rotate_left
 .rw[A9 (by rw[List.length_zip];omega)]at hinv
  have hm:mr:=hinv.symm
  rw[ai1 (by rw[hm];decide)]at hM
  have ak:=db hm hv
  have ab:Pure prog 213 [.agg T.row,.sl .ro (row.map bK.row),.agg e.row] (fm (nV T row e)):=by
   unfold iL at q
   by_cases d:ig e<=64
   .rw[ai2 d]at q;exact OL ak hT 64 e d he.wide he.dV q
   .rw[ai1 d]at q;cases q
  rw[hM]at ab
  refine zA ?_
  simp[go_sem,p]
  refine zL ab cB ⟨zC rfl,zK,xi e,tV⟩ rfl ?_
  simp[go_sem,fm]
  exact xn rfl
 have qc:i<T.cm.length:=om
 have ei:=zU p (by unfold maxLen at hT;omega)
 obtain⟨v,al⟩:=eX (row[i])
 obtain⟨C,hC⟩:=eX (T.cm[i])
 have qz:i<(row.zip T.cm).length:=by rw[List.length_zip];omega
 rw[H5 _ _ _ qz,List.getElem_zip,al,hC]at hinv
 obtain⟨tl,af⟩: ∃tl,(((row.zip T.cm).drop (i+1)).all λp=>Im p.1 p.2)=tl:=⟨_,rfl⟩
 rw[af]at hinv
 unfold Im at hinv
 have an:=F8 v
 simp only at hinv
 generalize eD v=mv at an hinv
 refine zA ?_
 simp[go_sem,p,al]
 refine yI [(1,0)] 4 sm kR kR ?_
 simp[go_sem]
 refine pD an ?_
 refine(A6 mv).elim (λp2=> ?_) (λp2=> ?_)
 rotate_left
 .have hm:mr=false:=by rw[<-hinv,p2];simp
  rw[ai2 hm]at hM
  simp[go_sem,p2]
  exact ret zeroV 9 _ hM
 rw[p2,Bc]at hinv
 simp[go_sem,p2]
 by_cases k1:v.kind=C.kind
 .have ah:(v.kind !=C.kind)=false:=sU k1
  have ad:(v.kind==C.kind)=true:=sU k1
  rw[ad,aiz,Bc]at hinv
  simp[go_sem,ah,qc,hC,ei]
  exact zJ (i+1,v0) ⟨by show row.length - (i+1)<row.length - i;omega,⟨p,af.trans hinv⟩,cc 3 (by simp[go_sem,bJ.bR]) rfl (by simp[bT,cS,cN,bJ.bR]) dC (zD sg rfl)⟩
 have ah:(v.kind !=C.kind)=true:=sU k1
 have ad:(v.kind==C.kind)=false:=sU k1
 rw[ad,Bool.or_false]at hinv
 simp[go_sem,ah,qc,hC]
 by_cases k0:v.kind=0
 .have ai:(v.kind !=0)=false:=sU k0
  have ae:(v.kind==0)=true:=sU k0
  rw[ae,Bc]at hinv
  simp[go_sem,ai,ei]
  exact zJ (i+1,v0) ⟨by show row.length - (i+1)<row.length - i;omega,⟨p,af.trans hinv⟩,cc 3 (by simp[go_sem,bJ.bR]) rfl (by simp[bT,cS,cN,bJ.bR]) dC (zD sg rfl)⟩
 have ai:(v.kind !=0)=true:=sU k0
 have ae:(v.kind==0)=false:=sU k0
 rw[ae,Dq]at hinv
 rw[ai2 hinv.symm]at hM
 simp[go_sem,ai]
 exact ret zeroV 9 _ hM
theorem U6 {T:bL} {row:List bK} (hv: ∀v∈row,v.ok) {e:bJ} (he:jl e) (h:(gN T row e).2=0):VK (gN T row e).1 (iL T e).1:=by
 unfold gN at h⊢
 by_cases q:(iL T e).2=0
 rotate_left
 .rw[ai2 q]at h;exact absurd h q
 have n1: ¬(iL T e).2≠0:=λh=>h q
 rw[ai1 n1]at h⊢
 cases hm:Ev T.cm row with
 |false=>rw[hm]at h;simp at h
 |true=>
  rw[hm]at h
  simp only[Bool.true_eq_false,aij]at h⊢
  unfold iL at q⊢
  by_cases d:ig e<=64
  .rw[ai2 d]at q⊢
   exact Ld (Ux hm hv) 64 e d he.dV q h
  .rw[ai1 d]at q;cases q
theorem wb6 (T:bL) (e:bJ) (x:Ln) (l:List Ln) (acc:bK):ki T e (x::l) acc=
  if(gN T x.v e).2≠0 then(zeroV,(gN T x.v e).2)
  else if(gN T x.v e).1.kind=0 then ki T e l acc
  else if(fk (acc.n+(gN T x.v e).1.n)).2≠0 then(zeroV,(fk (acc.n+(gN T x.v e).1.n)).2)
  else ki T e l ⟨2,(fk (acc.n+(gN T x.v e).1.n)).1,[]⟩:=rfl
theorem wc1 (T:bL) (hT:T.cm.length<=maxLen) (e:bJ) (he:jl e) (l:List Ln) (hl:l.length<=10000) (db: ∀x∈l,∀v∈x.v,v.ok):bN prog 220 [.agg T.row,.agg e.row,.cL 0 3 l.length 0 l.length] [.cd (l.map Ln.row) 3] (λr s=>r=fm (ki T e l zeroV)/\s= [.cd (l.map Ln.row) 3]):=by
 generalize hM:ki T e l zeroV=M
 have ret: ∀(v:bK) (er:Int) (I:St),(v,er)=M->I.take 1= [.cd (l.map Ln.row) 3]->cw (some (.cz [.agg v.row,.int .i64 er])) 1 (λr s=>r=fm M/\s= [.cd (l.map Ln.row) 3]) I:=by
  rintro v er I rfl h
  exact yZ 1 h rfl (by simp[bT,cS,cN,Ln.row]) (A7 _) (zC rfl) ⟨rfl,rfl⟩
 refine iV 1 func220 ntmps220 results220 λc hc hb=> ?_
 refine zA ?_
 simp[go_sem]
 refine zI (S:=Nat×bK) [3,4,6,7,8,13,14,15] (λu=> [.ptr 1 0,.ptr 2 0,.ptr 3 0,.int .i64 0,.ptr 4 0,.cL 0 3 l.length 0 l.length,.int .i64 l.length,.int .i64 u.1])
  (λu=> [.cd (l.map Ln.row) 3,.box T.row,.box e.row,.box zeroV.row,.box u.2.row]) (λu=>l.length - u.1)
  (λu=>u.1<=l.length/\gz u.2.n/\u.2.s= []/\ki T e (l.drop u.1) u.2=M) hc hb (0,zeroV) ⟨A3 _,dC,rfl,hM⟩ ?_ ?_
 .exact cc 5 (by simp[go_sem,zeroV,bJ.bR]) rfl (by simp[bT,cS,cN,bJ.bR,bL.row,bK.row,Ln.row]) dC (zD sg rfl)
 rintro⟨i,acc⟩ ⟨hi,ha,has,hinv⟩
 simp only at hi ha has hinv
 by_cases q:i<l.length
 rotate_left
 .rw[A9 om]at hinv
  refine zA ?_
  simp[go_sem,q]
  exact ret acc 0 _ hinv rfl
 have ei:=zU q om
 obtain⟨x,hx⟩:=eX (l[i])
 have aj:x∈l:=hx▸A8 q
 rw[A5 q,hx,wb6]at hinv
 have aa:=Lq T hT x.v (db x aj) e he
 have ad:=U6 (db x aj) (T:=T) he
 obtain⟨⟨v,er⟩,hv⟩: ∃kv,gN T x.v e=kv:=⟨_,rfl⟩
 rw[hv]at hinv aa ad
 simp only at hinv ad
 refine zA ?_
 simp[go_sem,q,hx]
 refine zL aa cB ⟨zC rfl,zK,xi e,tV⟩ rfl ?_
 simp[go_sem,fm]
 by_cases q2:er=0
 rotate_left
 .have ae:(er !=0)=true:=sU q2
  rw[ai2 q2]at hinv
  simp[go_sem,ae]
  exact ret zeroV er _ hinv rfl
 have ae:(er !=0)=false:=sU q2
 rw[ai1 (λh=>h q2)]at hinv
 have ak:=ad q2
 simp[go_sem,ae]
 by_cases k0:v.kind=0
 .have af:(v.kind==0)=true:=sU k0
  rw[ai2 k0]at hinv
  simp[go_sem,af,ei]
  exact zJ (i+1,acc) ⟨by show l.length - (i+1)<l.length - i;omega,⟨q,ha,has,hinv⟩,cc 5 (by simp[go_sem,zeroV,bJ.bR]) rfl (by simp[bT,cS,cN,bJ.bR,Ln.row]) dC (zD sg rfl)⟩
 have af:(v.kind==0)=false:=sU k0
 rw[ai1 k0]at hinv
 have ab:=OG acc.n v.n ha ak.n
 have ah:=OJ (acc.n+v.n)
 obtain⟨⟨sn,se⟩,hs⟩: ∃s,fk (acc.n+v.n)=s:=⟨_,rfl⟩
 rw[hs]at hinv ab ah
 simp only at hinv ah
 simp[go_sem,af]
 refine pC ab ?_
 simp[go_sem,wI]
 by_cases q3:se=0
 rotate_left
 .have ai:(se !=0)=true:=sU q3
  rw[ai2 q3]at hinv
  simp[go_sem,ai]
  exact ret zeroV se _ hinv rfl
 have ai:(se !=0)=false:=sU q3
 rw[ai1 (λh=>h q3)]at hinv
 simp[go_sem,ai,ei]
 exact zJ (i+1,⟨2,sn,[]⟩) ⟨by show l.length - (i+1)<l.length - i;omega,⟨q,ah,rfl,hinv⟩,cc 5 (by simp[go_sem,zeroV,bJ.bR,has]) rfl (by simp[bT,cS,cN,bJ.bR,Ln.row]) dC (zD sg rfl)⟩
def rA (r:List bK×Int):V:=if r.2=0 then .cz [.agg (Ot.row ⟨0,[r.1]⟩),.int .i64 0]else .cz [.agg (Ot.row ⟨0,[]⟩),.int .i64 r.2]
theorem wr3 (T:bL) (hT:T.cm.length<=maxLen) (st:bW) (af:k6 st) (l:List Ln) (hl:l.length<=10000) (db: ∀x∈l,∀v∈x.v,v.ok):bN prog 158 [.agg T.row,.agg st.row,.cL 0 3 l.length 0 l.length] [.cd (l.map Ln.row) 3] (λr s=>r=rA (rk T l st.items [])/\s= [.cd (l.map Ln.row) 3]):=by
 generalize hM:rk T l st.items []=M
 obtain⟨R,hR⟩:=eX st.items
 obtain⟨ah,ae⟩:=af.items
 rw[hR]at ah ae hM
 have bad: ∀(er:Int) (I:St),([],er)=M->er≠0->I.take 1= [.cd (l.map Ln.row) 3]->cw (some (.cz [.agg [.sl .full [],.int .i64 0],.int .i64 er])) 1 (λr s=>r=rA M/\s= [.cd (l.map Ln.row) 3]) I:=by
  rintro er I rfl h0 h
  refine yZ 1 (r:= .cz [.agg (Ot.row ⟨0,[]⟩),.int .i64 er]) h rfl (by simp[bT,cS,cN,Ln.row]) (A7 _) (yW ⟨wX ⟨zX,zF rfl,tV⟩,xV rfl,tV⟩) ⟨?_,rfl⟩
  unfold rA
  rw[ai1 h0]
 have dV: ∀(acc:List bK) (I:St),(acc,0)=M->I.take 1= [.cd (l.map Ln.row) 3]->cw (some (.cz [.agg [.sl .full [[.sl .ro (acc.map bK.row)]],.int .i64 0],.int .i64 0])) 1 (λr s=>r=rA M/\s= [.cd (l.map Ln.row) 3]) I:=by
  rintro acc I rfl h
  exact yZ 1 (r:= .cz [.agg (Ot.row ⟨0,[acc]⟩),.int .i64 0]) h rfl (by simp[bT,cS,cN,Ln.row]) (A7 _) (yW ⟨wX ⟨zX,zF rfl,tV⟩,xV rfl,tV⟩) ⟨rfl,rfl⟩
 refine iV 1 func158 ntmps158 results158 λc hc hb=> ?_
 refine zA ?_
 simp[go_sem,hR]
 refine l7 8 3 dC sg ?_
 refine zI (S:=Nat×List bK) [2,3,4,6,7,8,15,16,17] (λu=> [.cL 0 3 l.length 0 l.length,.ptr 1 0,.ptr 2 0,.ptr 3 0,.int .i64 0,.sl (.app 4) (u.2.map bK.row),.sl .ro (R.map cO.row),.int .i64 R.length,.int .i64 u.1])
  (λu=> [.cd (l.map Ln.row) 3,.box T.row,.box st.row,.box [.sl .full [],.int .i64 0],.app u.2.length 3]) (λu=>R.length - u.1)
  (λu=>u.1<=R.length/\u.2.length<=u.1/\rk T l (R.drop u.1) u.2=M) hc hb (0,[]) ⟨A3 _,A7 _,hM⟩ ?_ ?_
 .exact cc 5 (by simp[go_sem,hR]) rfl (by simp[bT,cS,cN,bL.row,bW.row,Ln.row]) dC (zD sg rfl)
 rintro⟨i,acc⟩ ⟨hi,ha,hinv⟩
 simp only at hi ha hinv
 by_cases q:i<R.length
 rotate_left
 .rw[A9 om]at hinv
  refine zA ?_
  simp[go_sem,q]
  exact dV acc _ hinv rfl
 have ei:=zU q om
 obtain⟨x,hx⟩:=eX (R[i])
 have ai:=(ae x (hx▸A8 q)).2
 rw[A5 q,hx,rk]at hinv
 refine zA ?_
 simp[go_sem,q,hx]
 by_cases k4:x.kind=4
 rotate_left
 .have ab:(x.kind==4)=false:=sU k4
  rw[ai1 k4]at hinv
  simp[go_sem,ab]
  refine zH ⟨om,zY rfl⟩ ?_
  simp[go_sem,ei]
  exact zJ (i+1,acc++ [⟨2,l.length,[]⟩]) ⟨by show R.length - (i+1)<R.length - i;omega,⟨q,by show(acc++ [_]).length<=i+1;simp;omega,hinv⟩,aN 5 (by simp[bT,cS,cN,Ln.row])⟩
 have ab:(x.kind==4)=true:=sU k4
 rw[ai2 k4]at hinv
 simp[go_sem,ab]
 have aa:=wc1 T hT x.e ai l hl db
 obtain⟨⟨v,er⟩,hv⟩: ∃kv,ki T x.e l zeroV=kv:=⟨_,rfl⟩
 rw[hv]at hinv aa
 simp only at hinv
 refine mz 0 aa cB rfl (by simp[bT,cS,cN,Ln.row]) ⟨zC rfl,xi x.e,.inl rfl,tV⟩ (by rintro r s ⟨rfl,rfl⟩;exact⟨_,rfl,by simp[bT,cS,cN,Ln.row]⟩) ?_
 rintro r o ⟨rfl,ho⟩
 cases ho
 simp[go_sem,fm]
 by_cases q2:er=0
 rotate_left
 .have ad:(er !=0)=true:=sU q2
  rw[ai2 q2]at hinv
  simp[go_sem,ad]
  exact bad er _ hinv q2 rfl
 have ad:(er !=0)=false:=sU q2
 rw[ai1 (λh=>h q2)]at hinv
 simp[go_sem,ad]
 refine zH ⟨om,zY rfl⟩ ?_
 simp[go_sem,ei]
 exact zJ (i+1,acc++ [v]) ⟨by show R.length - (i+1)<R.length - i;omega,⟨q,by show(acc++ [_]).length<=i+1;simp;omega,hinv⟩,aN 5 (by simp[bT,cS,cN,Ln.row])⟩
theorem xg6 (y:cO):Pure prog 219 [.agg y.row] (.bool (y.kind==3||y.kind==4)):=by
 refine iV 0 func219 ntmps219 results219 λc hc hb=> ?_
 refine zA ?_
 by_cases k:y.kind=3
 .have k':(y.kind==3)=true:=sU k
  simp[go_sem,k']
  exact wR
 .have k':(y.kind==3)=false:=sU k
  simp[go_sem,k']
  exact wR
theorem wk4 (l:List cO) (hl:l.length<=12):Pure prog 269 [.sl .ro (l.map cO.row),.fn 219 []] (.int .i64 (xU (λy=>y.kind==3||y.kind==4) l 0)):=by
 generalize hM:xU (λy:cO=>y.kind==3||y.kind==4) l 0=M
 have ret: ∀(r:Int) (I:St),r=M->cw (some (.int .i64 r)) 0 (λr s=>r= .int .i64 M/\s= []) I:=λr I h=>by subst h;exact wR
 refine iV 0 func269 ntmps269 results269 λc hc hb=> ?_
 refine zA ?_
 simp[go_sem]
 refine zI (S:=Nat) [0,1,6,7,8] (λi=> [.sl .ro (l.map cO.row),.fn 219 [],.sl .ro (l.map cO.row),.int .i64 l.length,.int .i64 (i:Int)]) (λ_=> []) (λi=>l.length - i)
  (λi=>i<=l.length/\xU (λy=>y.kind==3||y.kind==4) (l.drop i) i=M) hc hb 0 ⟨A3 _,hM⟩ ?_ ?_
 .exact aN 0 sm
 rintro i ⟨hi,hinv⟩
 by_cases q:i<l.length
 rotate_left
 .rw[A9 om]at hinv
  refine zA ?_
  simp[go_sem,q]
  exact ret _ _ hinv
 have ei:=zU q om
 obtain⟨y,hy⟩:=eX (l[i])
 rw[A5 q,hy,xU]at hinv
 have aa:=xg6 y
 generalize (y.kind==3||y.kind==4)=b at aa hinv
 refine zA ?_
 simp[go_sem,q,hy]
 refine pC aa ?_
 refine(A6 b).elim (λp=> ?_) (λp=> ?_)
 .rw[ai2 p]at hinv
  simp[go_sem,p]
  exact ret _ _ hinv
 .rw[ai1 (by rw[p];decide)]at hinv
  simp[go_sem,p,ei]
  exact zJ (i+1) ⟨om,⟨om,hinv⟩,aN 0 sm⟩
theorem wj7 (l:List cO) (hl:l.length<=12):Pure prog 218 [.sl .ro (l.map cO.row),.fn 219 []] (.bool (AW l)):=by
 have h:=wk4 l hl
 have hg:=Er (λy:cO=>y.kind==3||y.kind==4) l 0
 unfold AW
 rw[<-hg]
 generalize xU (λy:cO=>y.kind==3||y.kind==4) l 0=n at h⊢
 refine iW 0 func218 ntmps218 results218 λc hc hb=>zM ?_
 simp[go_sem]
 refine pC h ?_
 simp[go_sem]
 exact wR
theorem we0 (st:bW) (aa:k6 st):Pure prog 157 [.agg st.row] (.bool (AW st.items)):=by
 have h:=wj7 st.items aa.items.1
 generalize AW st.items=b at h⊢
 refine iW 0 func157 ntmps157 results157 λc hc hb=>zM ?_
 simp[go_sem]
 refine pC h ?_
 simp[go_sem]
 exact wR
theorem U7: ∀{W:List (Pl×U)},(∀e∈W,e.1≠p)->W.filter (λe=> !decide (e.1=p))=W:=fun{W} h=>
 D3.2 λe he=>by simp[h e he]
theorem U8 {U:Type} {p:Pl} {v:U}: ∀{W:List (Pl×U)} {i:Nat},(W.map (·.1)).Nodup->W[i]? =some (p,v)->W.eraseIdx i=W.filter (λe=> !decide (e.1=p))
 | [],i,_,h=>by simp at h
 |e::W,0,hn,h=>by
  simp only[List.getElem?_cons_zero,ai5]at h
  subst h
  rw[Ah,C1]at hn
  rw[List.eraseIdx_cons_zero,Dd,ai1 sm]
  exact(U7 λe he q=>hn.1 (Ab.2 ⟨e,he,q⟩)).symm
 |e::W,i+1,hn,h=>by
  rw[Dw]at h
  rw[Ah,C1]at hn
  have aa:e.1≠p:=λq=>hn.1 (Ab.2 ⟨(p,v),Bk h,q.symm⟩)
  rw[List.eraseIdx_cons_succ,Dd,ai2 (by simp[aa]),U8 hn.2 h]
theorem wq1 (hn:(b.W.map (·.1)).Nodup) (p:Pl):(b.del p).W=b.W.filter (λe=> !decide (e.1=p)):=by
 unfold Mp.del
 cases h:b.at p with
 |none=>exact(U7 (Lh h)).symm
 |some q=>exact U8 hn (xp (i:=q.1) (v:=q.2) h)
theorem U9 {U:Type} {p:Pl} {u v:U}: ∀{W:List (Pl×U)} {i:Nat},(W.map (·.1)).Nodup->W[i]? =some (p,u)->W.set i (p,v)=W.map (λe=>if e.1=p then(p,v)else e)
 | [],i,_,h=>by simp at h
 |e::W,0,hn,h=>by
  simp only[List.getElem?_cons_zero,ai5]at h
  subst h
  rw[Ah,C1]at hn
  rw[Cf,Ah,ai2 rfl]
  congr 1
  refine(List.map_id _).symm.trans (B9 λe he=> ?_)
  rw[ai1 λq=>hn.1 (Ab.2 ⟨e,he,q⟩)];rfl
 |e::W,i+1,hn,h=>by
  rw[Dw]at h
  rw[Ah,C1]at hn
  have aa:e.1≠p:=λq=>hn.1 (Ab.2 ⟨(p,u),Bk h,q.symm⟩)
  rw[By,Ah,ai1 aa,U9 hn.2 h]
theorem cM.keys {l:List Ln} (h:cM b l):(b.W.map (·.1)).Nodup:=by
 have h1:=h.perm.map (·.1)
 rw[Bb]at h1
 exact h1.nodup_iff.2 h.je.nodup
theorem cM.del {l:List Ln} (h:cM b l) (p:Pl):cM (b.del p) (l.filter λy=> !decide (y.at=p)):=by
 refine⟨Mp.Ew h.ok _, ?_, ?_,λy hy=>h.rows y (Bn.1 hy).1⟩
 .exact List.Pairwise.sublist ((C2).map _) h.je
 .rw[wq1 h.keys]
  have h1:=h.perm.filter (λe=> !decide (e.1=p))
  rw[List.filter_map]at h1
  exact h1
theorem cM.It {l:List Ln} (h:cM b l) (p:Pl) (row:List bK) (hp:jD l p) (aa:fM ⟨p.1,p.2,row⟩):cM (b.put p (xL row)) (jy l p row):=by
 have ab:(jy l p row).map Ln.at=l.map Ln.at:=by
  unfold jy
  rw[Bb]
  refine B9 λy _=> ?_
  by_cases q:y.at=p
  .simp only[Function.comp,ai2 q];rfl
  .simp only[Function.comp,ai1 q]
 refine⟨Mp.jc h.ok _ _, ?_, ?_,λy hy=> ?_⟩
 .rw[ab];exact h.je
 .have e:(b.put p (xL row)).W=b.W.map (λe=>if e.1=p then(p,xL row)else e):=by
   unfold Mp.put
   cases r:b.at p with
   |none=>rw[h.gT.1 r]at hp;cases hp
   |some q=>exact U9 h.keys (xp (i:=q.1) (v:=q.2) r)
  rw[e]
  have h1:=h.perm.map (λe=>if e.1=p then(p,xL row)else e)
  rw[Bb]at h1
  refine h1.trans (aiq ?_)
  unfold jy
  rw[Bb]
  refine B9 λy _=> ?_
  by_cases q:y.at=p
  .simp only[Function.comp,ai2 q]
   show _=((y.r,y.k),xL row)
   rw[<-q];rfl
  .simp only[Function.comp,ai1 q]
 .unfold jy at hy
  obtain⟨z,hz,rfl⟩:=Ab.1 hy
  by_cases q:z.at=p
  .rw[ai2 q]
   subst q
   exact aa
  .rw[ai1 q];exact h.rows z hz
theorem VK.okV {v:bK} {k:Int} (h:VK v k):v.ok:=by
 have hm:=h.may
 have hn:=h.n
 rcases OP hm with ⟨h1,_,h3⟩|⟨h1,_,h3⟩|⟨h1,h3⟩|⟨h1,_,h3⟩
 all_goals
  refine⟨by rw[h1];decide,hn, ?_⟩
  first|(rw[h3];decide)|(unfold maxLen;omega)
theorem Lr {T:bL} {oz:List bK} (ho: ∀v∈oz,v.ok): ∀{cG:List ct} {row:List bK},(∀x∈cG,jl x.e)->(∀v∈row,v.ok)->(gB T oz cG row).2=0->(gB T oz cG row).1.length=row.length/\ ∀v∈(gB T oz cG row).1,v.ok
 | [],row,_,hr,_=>(by trivial)
 |x::l,row,hs,hr,h=>by
  rw[gB]at h⊢
  by_cases q:(gN T oz x.e).2=0
  .rw[ai1 om]at h⊢
   have hv:=(U6 ho (by grind) q).okV
   have h2:=Lr ho (cG:=l) (row:=row.set (cU T x.name).toNat (gN T oz x.e).1) (by grind) (by grind) h
   grind
  grind
theorem Va {T:bL} {st:bW}: ∀{l acc:List Ln},∀x∈(uh T st acc l).1,x∈acc\/x∈l
 | [],_,_,h=> .inl h
 |y::l,acc,x,h=>by
  rw[uh]at h
  by_cases q:(gN T y.v st.cE).2=0
  .rw[ai1 om]at h
   rcases Va (l:=l) x h with h|h
   all_goals grind
  grind
theorem Ls {t:Int} {T:bL} {l:List Ln}: ∀x∈(gh t T st l).1,x∈l/\(pq t st x)=true:=λx h=>by
 unfold gh at h
 have hf:x∈l.filter (pq t st):=by
  by_cases q:st.dP=true
  .rw[ai2 q]at h
   rcases Va x h with h|h
   all_goals grind
  grind
 grind
theorem xZ5 (l:List Ln) (p:Pl) (row:List bK):(jy l p row).map Ln.at=l.map Ln.at:=by
 unfold jy
 rw[Bb]
 refine B9 λy _=> ?_
 by_cases q:y.at=p
 .simp only[Function.comp,ai2 q];rfl
 grind
theorem Vb (l:List Ln) (p q:Pl) (row:List bK):jD (jy l p row) q=jD l q:=by
 rw[Da,gi,gi,xZ5]
def kW (p q:Pl):Int:=tZ [gx p.1 q.1,jb p.2 q.2]
theorem O0 (p q:Pl):decide (kW p q<0)=xY p q:=by
 obtain⟨a,s⟩:=p
 obtain⟨b,t⟩:=q
 simp only[kW,tZ,gx,jb,xY]
 by_cases h1:a<b
 .simp[h1]
 .by_cases h2:a>b
  .have h3: ¬a=b:=om
   simp[h1,h2,h3]
  .have h3:a=b:=om
   subst h3
   by_cases h4:Op.bytesLess s t=true
   .simp[h4]
   .have aa:Op.bytesLess s t=false:=sU h4
    by_cases h5:Op.bytesLess t s=true
    .simp[aa,h5]
    .simp[aa,h5]
theorem Vc:Go.Sort.SWO λa b=>decide (kW a b<0):=by
 have e:(λa b=>decide (kW a b<0))=xY:=funext λa=>funext λb=>O0 a b
 rw[e]
 refine⟨Lm,λx y z h g=>Ip h g,λx y z h g=> ?_⟩
 cases q:xY x z with
 |false=>rfl
 |true=>
  rcases Iq x y with r|r|r
  .rw[r]at h;cases h
  .subst r;rw[q]at g;cases g
  .have:=Ip r q;rw[this]at g;cases g
theorem wa1 {X:Type} {kx:X->Pl} {l:List X} (h:l.Pairwise λa b=> ¬kW (kx b) (kx a)<0) (hn:(l.map kx).Nodup):iB (l.map kx):=by
 unfold iB
 rw[D1]
 rw[List.Nodup,D1]at hn
 refine(h.and hn).imp fun{a b} ⟨h1,h2⟩=> ?_
 rcases Iq (kx a) (kx b)with r|r|r
 .exact r
 .exact absurd r h2
 .rw[<-O0]at r
  exact absurd (aia r) h1
theorem Vd (p q:Pl):Pure prog 110 [ia p,ia q] (.int .i64 (kW p q)):=by
 have h:=Ii [gx p.1 q.1,jb p.2 q.2] (by simp[maxLen])
 have h1:=OA p.1 q.1
 have h2:=Uc p.2 q.2
 unfold kW
 generalize tZ [gx p.1 q.1,jb p.2 q.2]=M at*
 refine iW 0 func110 ntmps110 results110 λc hc hb=>zM ?_
 simp[go_sem,ia]
 refine yI [(4,0),(9,0),(11,0)] 2 rfl kR kR ?_
 simp[go_sem]
 refine pD h1 ?_
 simp[go_sem]
 refine pD h2 ?_
 simp[go_sem]
 refine pD h ?_
 simp[go_sem]
 exact wR
theorem xL8 (p q:Pl):Pure prog 155 [.agg (.int .i64 p.1:: .str p.2::List.replicate (3 - 2) .u),.agg (.int .i64 q.1:: .str q.2::List.replicate (3 - 2) .u)] (.int .i64 (kW p q)):=by
 have h:=Vd p q
 rw[ia,ia]at h
 show Pure prog 155 [.agg [.int .i64 p.1,.str p.2,.u],.agg [.int .i64 q.1,.str q.2,.u]] (.int .i64 (kW p q))
 refine iW 0 func155 ntmps155 results155 λc hc hb=>zM ?_
 simp[go_sem]
 refine pC h ?_
 simp[go_sem]
 exact wR
def jX (seen:aiB) (W:List (Pl×U)) (bs:aiB):List ((Pl×U)×Nat):=(W.zip bs).filter λp=> !seen.contains p.2
theorem Ve {U:Type} {g:U->V} {seen:aiB}: ∀{W:List (Pl×U)} {bs:aiB},yu seen (gA g W) bs=(jX seen W bs).map λp=>(ia p.1.1,g p.1.2,p.2)
 | [],bs=>by cases bs<;>rfl
 |e::W,[]=>rfl
 |e::W,b::bs=>by
  rw[gA,yu,Ve]
  unfold jX
  rw[Dz,Dd]
  cases h:seen.contains b
  .simp only[Cv,aij,Bool.not_false,aib,Ah]
  .simp only[aib,Bool.not_true,Cv,aij]
theorem Lt {U:Type} {g:U->V}: ∀{W:List (Pl×U)} {bs:aiB} {p:(Pl×U)×Nat},bs.Nodup->p∈W.zip bs->EO p.2 (gA g W) bs=some (ia p.1.1,g p.1.2)
 | [],_,_,_,h=>by simp at h
 |e::W,[],_,_,h=>by simp at h
 |e::W,b::bs,p,hn,h=>by
  rw[C1]at hn
  rw[gA,EO]
  rw[Dz]at h
  rcases Ae.1 h with rfl|h
  .rw[ai2 rfl]
  .have:b≠p.2:=λq=>hn.1 (q▸(List.of_mem_zip h).2)
   rw[ai1 this]
   exact Lt hn.2 h
theorem Vf {U:Type}: ∀{W:List U} {bs:aiB},bs.Nodup->((W.zip bs).map (·.2)).Nodup
 | [],_,_=>by simp
 |e::W,[],_=>by simp
 |e::W,b::bs,h=>by
  rw[C1]at h
  rw[Dz,Ah,C1]
  refine⟨λq=> ?_,Vf h.2⟩
  obtain⟨p,hp,rfl⟩:=Ab.1 q
  exact h.1 (List.of_mem_zip hp).2
theorem Vg {U:Type} {p:U×Nat}: ∀{L:List (U×Nat)},(L.map (·.2)).Nodup->p∈L->L.Perm (p::L.filter λq=> !decide (q.2=p.2))
 | [],_,h=>by cases h
 |x::L,hn,h=>by
  rw[Ah,C1]at hn
  rcases Ae.1 h with rfl|h
  .have:(p::L).filter (λq=> !decide (q.2=p.2))=L:=by
    rw[Dd,ai1 sm]
    exact D3.2 λq hq=>by
     have:q.2≠p.2:=λe=>hn.1 (Ab.2 ⟨q,hq,e⟩)
     simp[this]
   rw[this]
  .have:x.2≠p.2:=λe=>hn.1 (Ab.2 ⟨p,h,e.symm⟩)
   rw[Dd,ai2 (by simp[this])]
   exact((Vg hn.2 h).cons x).trans (List.Perm.swap ..)
theorem Lu (hn:bs.Nodup) {p:(Pl×U)×Nat} (hp:p∈jX seen W bs):(jX seen W bs).Perm (p::jX (seen++ [p.2]) W bs):=by
 have h1:((jX seen W bs).map (·.2)).Nodup:=aie ((C2).map _) (Vf hn)
 refine(Vg h1 hp).trans (aiq ?_)
 congr 1
 unfold jX
 rw[List.filter_filter]
 refine List.filter_congr λq _=> ?_
 by_cases e:q.2=p.2
 .simp[e]
 .simp[e]
theorem Lv {p:(Pl×U)×Nat} (hp:p∈jX seen W bs):p∈W.zip bs:=(Bn.1 hp).1
theorem xX8 (h:bs.length=W.length):(jX [] W bs).map (·.1)=W:=by
 unfold jX
 rw[D3.2 λq _=>sm,List.map_fst_zip om]
def ib (seen:aiB) (W:List (Pl×U)) (bs:aiB) (D:List (Pl×U)):Prop:=(D++(jX seen W bs).map (·.1)).Perm W
theorem ib.start (h:bs.length=W.length):ib [] W bs []:=by
 unfold ib
 rw[xX8 h];exact List.Perm.refl _
theorem ib.next {D:List (Pl×U)} (hn:bs.Nodup) (h:ib seen W bs D) {p:(Pl×U)×Nat} (hp:p∈jX seen W bs):ib (seen++ [p.2]) W bs (D++ [p.1]):=by
 unfold ib at h⊢
 refine List.Perm.trans ?_ h
 rw[Cn]
 have h1:=(Lu hn hp).map λx:(Pl×U)×Nat=>x.1
 rw[Ah]at h1
 exact List.Perm.append_left _ h1.symm
theorem ib.done {D:List (Pl×U)} (h:ib seen W bs D) (h0:jX seen W bs= []):D.Perm W:=by
 unfold ib at h
 rw[h0]at h
 simpa using h
theorem Vh {U:Type} {p q:U->Bool}: ∀{l:List U},(∀x∈l,p x=true->q x=false)->(l.filter p++l.filter q).Perm (l.filter λx=>p x||q x)
 | [],_=>List.Perm.refl _
 |x::l,h=>by
  have ih:=Vh (l:=l) λy hy=>h y (B5 _ hy)
  have hx:=h x (Av ..)
  simp only[Dd]
  cases hp:p x with
  |true=>
   simp only[hx hp,Dh,aib,Cv,aij,Bs]
   exact ih.cons x
  |false=>
   cases hq:q x with
   |true=>
    simp only[C5,aib,Cv,aij]
    exact De.trans (ih.cons x)
   |false=>
    simp only[C5,Cv,aij]
    exact ih
theorem Vi {l:List Ln} {c:Ln->Bool} {rg:Int->Int}: ∀{G:aiD},(G.map rg).Nodup->(G.flatMap λg=>l.filter λx=>(rg g==x.r)&&c x).Perm (l.filter λx=>(G.any λg=>rg g==x.r)&&c x)
 | [],_=>by simp
 |g::G,hn=>by
  rw[Ah,C1]at hn
  rw[Bw]
  refine(List.Perm.append_left _ (Vi (l:=l) (c:=c) hn.2)).trans ((Vh λx _ hp=> ?_).trans (aiq (List.filter_congr λx _=> ?_)))
  .simp only[Ac,ai8]at hp
   have:(G.any λg=>rg g==x.r)=false:=by
    cases q:G.any λg=>rg g==x.r with
    |false=>rfl
    |true=>
     obtain⟨g',h1,h2⟩:=List.any_eq_true.1 q
     exact absurd (Ab.2 ⟨g',h1,(beq_iff_eq.1 h2).trans hp.1.symm⟩) hn.1
   rw[this,Dq]
  .rw[aiy,Bool.and_or_distrib_right]
theorem xy9 {l m:List Ln} (hr:iB (l.map Ln.at)) (hp:m.Perm l) (hs:m.Pairwise λa b=>xY b.at a.at=false):m=l:=by
 have aa:(m.map Ln.at).Nodup:=(hp.map Ln.at).nodup_iff.2 hr.nodup
 have h1:l.Pairwise λa b=>xY a.at b.at=true:=D1.1 hr
 have h2:m.Pairwise λa b=>xY a.at b.at=true:=by
  refine(hs.and (D1.1 aa)).imp fun{a b} h=> ?_
  rcases Iq a.at b.at with q|q|q
  .exact q
  .exact absurd q h.2
  .rw[h.1]at q;cases q
 exact hp.eq_of_pairwise (λa b _ _ h g=>by rw[UW h]at g;cases g) h2 h1
theorem O1 (c:UInt8):UInt8.ofNat c.toNat=c:=sm
theorem Vj: ∀(l:aiA) (i v u n:Nat),ik l i v=(u,n,0)-> ∃w k,u=v+w*128^i/\n=i+k/\l.take k=eJ w/\k<=l.length/\(0<i->0<w)
 | [],i,v,u,n,h=>by grind[ik]
 |c::rest,i,v,u,n,h=>by
  rw[ik]at h
  split at h
  .grind
  .split at h
   .rename_i h2
    split at h
    .grind
    .rename_i h3
     simp only[aic]at h
     obtain⟨h4,h5,_⟩:=h
     refine⟨c.toNat,1, ?_,h5.symm, ?_,sm,λhi=> ?_⟩
     .grind
     .rw[F7 h2,O1];rfl
     omega
   .rename_i h2
    obtain⟨w,k,h4,h5,h6,h7,h8⟩:=Vj rest (i+1) _ u n h
    have hw:=om
    have hc:=c.toNat_lt
    have e1:(c.toNat%128+128*w)%128=c.toNat%128:=om
    have e2:(c.toNat%128+128*w)/128=w:=om
    refine⟨c.toNat%128+128*w,k+1, ?_,om, ?_,by grind,om⟩
    .grind
    .rw[HW om,e1,e2,Cr,h6]
     grind[O1]
theorem we5 (u:Nat):gI (kN u)=u:=by
 grind[gI,kN]
theorem O2 {l:aiA} {u n:Nat} (h:ik l 0 0=(u,n,0)):l.take n=eJ u/\n<=l.length:=by
 grind[Vj]
theorem yW3: ∀{b:aiA},(lG b).e=0->b.take (lG b).n=kz (lG b).v/\(lG b).n<=b.length/\0<(lG b).n
 | [],h=>by trivial
 |c::rest,h=>by
  have hc:=O1 c
  rw[lG]at h⊢
  revert h
  unfold pd
  split
  .grind[kz,eD,v0]
  .split
   .rename_i _ h1
    rw[h1]at hc
    unfold vj
    cases rest with
    |nil=>simp
    |cons d rest=>
     simp only[Af,List.getD_cons_succ,List.getD_cons_zero]
     rw[ai1 om]
     split
     .simp
     .intro _
      rename_i hd
      refine⟨?_,sm,sm⟩
      have hm:eD ⟨1,(d.toNat:Int),[]⟩=true:=by
       grind[eD]
      simp_all[kz]
   .split
    .rename_i _ _ h2
     rw[h2]at hc
     obtain⟨⟨u,n,e⟩,hg⟩: ∃g,ik rest 0 0=g:=⟨_,rfl⟩
     rw[hg]
     simp only
     split
     all_goals simp_all[O2,kz,eD,E2,we5]
    .split
     .rename_i _ _ _ h3
      rw[h3]at hc
      obtain⟨⟨u,n,e⟩,hg⟩: ∃g,ik rest 0 0=g:=⟨_,rfl⟩
      unfold tO wS
      rw[hg]
      by_cases he:e=0
      rotate_left
      .grind
      subst he
      by_cases h5:1048576<u
      .grind
      by_cases h6:rest.length - n<u
      .grind
      obtain⟨h7,h8⟩:=O2 hg
      have aa:((rest.take (n+u)).drop n).length=u:=by
       grind
      simp only[h5,h6,aij,ne_eq,ail,aa]
      by_cases hl:64<u
      .grind
      rw[ai1 hl]
      intro _
      refine⟨?_,by grind,by grind⟩
      have hm:eD ⟨3,0,(rest.take (n+u)).drop n⟩=true:=by
       grind[eD]
      unfold kz
      rw[ai2 hm]
      simp only
      rw[ai1 dC,ai1 dC,ai2 True.intro,aa,<-h7]
      rw[E2 1 (n+u),Cr]
      show c::_=UInt8.ofNat 3::_
      rw[hc]
      congr 1
      grind[B8]
     simp
theorem Vk: ∀(n:Nat) (b:aiA) (l:List bK),iA n b=some l->l.flatMap kz=b/\l.length=n
 |0,b,l,h=>by
  rw[iA]at h
  grind
 |n+1,b,l,h=>by
  rw[iA]at h
  split at h
  .rename_i he
   rw[Aw]at h
   obtain⟨l',h1,rfl⟩:=h
   obtain⟨h2,h3⟩:=Vk n _ l' h1
   obtain⟨h4,_,_⟩:=yW3 he
   refine⟨?_,by simp[h3]⟩
   rw[Bw,h2,<-h4,B8]
  grind
theorem xe2 {nc:Nat} {data:aiA} (h:(R.jP nc data).2=0):xL (R.jP nc data).1=data:=by
 revert h
 unfold R.jP
 split
 .rename_i h0
  intro h
  obtain⟨⟨u,n,e⟩,hg⟩: ∃g,ik data 0 0=g:=⟨_,rfl⟩
  rw[hg]at h h0⊢
  obtain⟨h1,h2⟩:=h0
  simp only at h1 h2 h⊢
  rw[h1]at hg
  subst h2
  obtain⟨h3,_⟩:=O2 hg
  cases hr:iA u (data.drop n)with
  |none=>grind[tP]
  |some l=>
   obtain⟨h5,h6⟩:=Vk _ _ _ hr
   show xL l=data
   unfold xL si
   grind[B8]
 omega
theorem fM.read {x:Ln} (h:fM x):ee bO (fC x.r).1 (xL x.v)=(x.v,0):=by
 obtain⟨tn,T,e,hT,hm⟩:=h.jA
 obtain⟨aa,ab⟩:=A4.1 hT
 have hL:=Gr ((by decide: ∀T∈bO,T.cm.length<=20) T (by grind)) h.ok hm
 simp_all[ee,xO0]
def vu (t:Int) (e:Pl×aiA):Ln:=⟨e.1.1,e.1.2,(ee bO t e.2).1⟩
def p6 (dw:Int) (lo hi:aiA) (e:Pl×aiA):Bool:=(e.1.1==dw)&&(!Op.bytesLess e.1.2 lo&&Op.bytesLess e.1.2 hi)
def Iu (dw:Int) (lo hi:aiA) (x:Ln):Bool:=(dw==x.r)&&(!Op.bytesLess x.k lo&&Op.bytesLess x.k hi)
theorem yU1 {l:List Ln} (h:cM b l) {D:List (Pl×aiA)} (hD:D.Perm b.W) {t dw:Int} (hr:(fC dw).1=t) (lo hi:aiA):
  ((D.filter (p6 dw lo hi)).map (vu t)).Perm (l.filter (Iu dw lo hi)):=by
 have h1:=((hD.trans h.perm).filter (p6 dw lo hi)).map (vu t)
 refine h1.trans (aiq ?_)
 rw[List.filter_map,Bb]
 have e1:l.filter (p6 dw lo hi∘λx=>(x.at,xL x.v))=l.filter (Iu dw lo hi):=List.filter_congr λx _=>by
  show((x.r==dw)&&_)=((dw==x.r)&&_)
  rw[Bool.beq_comm]
  rfl
 rw[e1]
 refine(B9 λx hx=> ?_).trans (List.map_id _)
 obtain⟨ad,aa⟩:=Bn.1 hx
 unfold Iu at aa
 rw[Ac,ai8]at aa
 have ab:=(h.rows x ad).read
 rw[<-aa.1,hr]at ab
 show vu t (x.at,xL x.v)=x
 unfold vu
 rw[ab]
 rfl
theorem xd6 (j:Nat) (hj:j<3) (st:bW):((wA (j:Int) st).map λg=>(xF j g).1).Nodup:=by
 match j,hj with
 |0,_=>
  have e:wA ((0:Nat):Int) st=iZ (nI st) [0,1]:=rfl
  rw[e,OT]
  exact aie ((C2).map _) (by decide:([0,1].map λg=>(xF ((0:Nat):Int) g).1).Nodup)
 |1,_=>exact(by decide:([-1].map λg=>(xF ((1:Nat):Int) g).1).Nodup)
 |2,_=>exact(by decide:([1].map λg=>(xF ((2:Nat):Int) g).1).Nodup)
theorem Vl (j:Nat) (hj:j<3) {g:Int} (hg:g∈wA (j:Int) st):(g= -1\/g=0\/g=1)/\(xF j g).2=0/\fC (xF j g).1=((j:Int),g,0):=by
 match j,hj with
 |0,_=>
  have e:wA ((0:Nat):Int) st=iZ (nI st) [0,1]:=rfl
  rw[e,OT]at hg
  have:=(Bn.1 hg).1
  simp at this
  rcases this with rfl|rfl
  all_goals decide
 |1,_=>
  have e:wA ((1:Nat):Int) st= [-1]:=rfl
  rw[e]at hg
  simp at hg
  subst hg
  decide
 |2,_=>
  have e:wA ((2:Nat):Int) st= [1]:=rfl
  rw[e]at hg
  simp at hg
  subst hg
  decide
theorem yF7 (j:Nat) (hj:j<3) (st:bW) (l:List Ln):((wA (j:Int) st).flatMap λg=>l.filter (Iu (xF j g).1 (nP bO j st).1 (nP bO j st).2)).Perm (l.filter (pq j st)):=
 Vi (l:=l) (c:=λx=> !Op.bytesLess x.k (nP bO j st).1&&Op.bytesLess x.k (nP bO j st).2) (rg:=λg=>(xF j g).1) (xd6 j hj st)
theorem xb8 {j:Nat} {l m:List Ln} (hr:iB (l.map Ln.at)) (hp:m.Perm (l.filter (pq j st))) (hs:m.Pairwise λa b=> ¬kW b.at a.at<0):m=l.filter (pq j st):=by
 refine xy9 (List.Pairwise.sublist ((C2).map _) hr) hp (hs.imp fun{a b} h=> ?_)
 rw[<-O0]
 grind
def oA (l:List Wr):Prop:=l.Pairwise λa b=>xY a.p b.p=true
theorem O3 (l:List Wr) (x:Wr):(kV l x).Perm (x::l):=by
 unfold kV
 refine De.trans (List.Perm.cons _ (aiq ?_))
 simp
theorem Vm {x:Wr}: ∀{l:List Wr},oA l->(∀y∈l,y.p≠x.p)-> ∀y∈l.dropWhile (λy=>xY y.p x.p),xY x.p y.p=true
 | [],_,_,y,hy=>by simp_all
 |z::l,hr,hn,y,hy=>by
  rw[oA,C9]at hr
  rw[List.dropWhile_cons]at hy
  by_cases q:xY z.p x.p=true
  .rw[ai2 q]at hy
   exact Vm hr.2 (by grind) y hy
  .rw[ai1 q]at hy
   have hz:xY x.p z.p:=by
    grind[Iq]
   rcases Ae.1 hy with rfl|hy
   all_goals grind[Ip]
theorem xt6 {l:List Wr} {x:Wr} (h:oA l) (hn: ∀y∈l,y.p≠x.p):oA (kV l x):=by
 have hd:=Vm h hn
 have ht: ∀y∈l.takeWhile (λy=>xY y.p x.p),xY y.p x.p:=OY
 unfold oA at h
 rw[<-Cl (p:=λy:Wr=>xY y.p x.p) (l:=l),Br]at h
 unfold kV oA
 rw[Br,C9]
 grind
theorem O4 {f:Ln->Wr} (hf: ∀x,(f x).p=x.at): ∀{m:List Ln} {l:List Wr},oA l->(l.map (·.p)++m.map Ln.at).Nodup->oA (m.foldl (λl x=>kV l (f x)) l)/\(m.foldl (λl x=>kV l (f x)) l).Perm (l++m.map f)
 | [],l,h,_=>(by simp_all)
 |x::m,l,h,hn=>by
  have hx: ∀y∈l,y.p≠(f x).p:=(by grind)
  have h2:((kV l (f x)).map (·.p)++m.map Ln.at).Nodup:=by
   have hp:((kV l (f x)).map (·.p)++m.map Ln.at).Perm (l.map (·.p)++(x::m).map Ln.at):=by
    refine(((O3 l (f x)).map (·.p)).append_right _).trans ?_
    rw[Ah,Ah,hf]
    exact De.symm
   exact hp.nodup_iff.2 hn
  obtain⟨h3,h4⟩:=O4 hf (m:=m) (xt6 h hx) h2
  refine⟨h3,h4.trans ?_⟩
  refine((O3 l (f x)).append_right _).trans ?_
  rw[Ah]
  exact De.symm
theorem Vn {l m:List Wr} (h:oA l) (g:oA m) (e: ∀x,x∈l↔x∈m):l=m:=by
 have nd: ∀{l:List Wr},oA l->l.Nodup:=λh=>h.imp (by grind[Lm])
 exact((List.perm_ext_iff_of_nodup (nd h) (nd g)).2 om).eq_of_pairwise (by grind[UW]) h g
def isW (p5 now:List Ln) (w:Wr):Prop:=
 (w.drop=true/\w.data= []/\(∃x∈p5,x.at=w.p)/\jD now w.p=false)\/(w.drop=false/\ ∃x∈now,x.at=w.p/\xL x.v=w.data/\ ∀y∈p5,y.at=x.at->xL y.v≠xL x.v)
theorem Lw {aa now:List Ln} (hw:iB (aa.map Ln.at)) (hn:iB (now.map Ln.at)):oA (jd aa now)/\ ∀w,w∈jd aa now↔isW aa now w:=by
 obtain⟨h1,h2⟩:=O4 (f:=λx=>⟨x.at,true,[]⟩) sm (m:=aa.filter λx=> !jD now x.at) (l:= []) List.Pairwise.nil (by
  simp only[Bp,C7]
  exact aie ((C2).map _) hw.nodup)
 rw[C7]at h2
 obtain⟨h3,h4⟩:=O4 (f:=λx=>⟨x.at,false,xL x.v⟩) sm (m:=now.filter λx=> !(aa.any λy=>decide (y.at=x.at)&&decide (xL y.v=xL x.v))) h1 (by
  have hp:=(h2.map (·.p)).append_right ((now.filter λx=> !(aa.any λy=>decide (y.at=x.at)&&decide (xL y.v=xL x.v))).map Ln.at)
  refine hp.nodup_iff.2 ?_
  rw[Bb,Co]
  refine⟨aie ((C2).map _) hw.nodup,aie ((C2).map _) hn.nodup,λa ha b hb e=> ?_⟩
  obtain⟨x,hx,rfl⟩:=Ab.1 ha
  obtain⟨y,hy,rfl⟩:=Ab.1 hb
  grind[jD])
 refine⟨h3,λw=> ?_⟩
 have h5:=(h4.trans (h2.append_right _)).mem_iff (a:=w)
 rw[Ak,Ab,Ab]at h5
 refine h5.trans (or_congr ⟨?_, ?_⟩ ⟨?_, ?_⟩)
 .grind
 .rintro⟨e1,e2,⟨x,hx,e3⟩,e4⟩
  refine⟨x,(by grind), ?_⟩
  obtain⟨p,d,b⟩:=w
  grind
 .grind
 .rintro⟨e1,x,hx,e2,e3,e4⟩
  refine⟨x,Bn.2 ⟨hx, ?_⟩, ?_⟩
  .grind
  .obtain⟨p,d,b⟩:=w
   grind
def ic (out:List (Int×List Wr)) (w:Wr):List (Int×List Wr):=
 match out.getLast? with
 |some q=>if q.1=w.p.1 then out.dropLast++ [(q.1,q.2++ [w])]else out++ [(w.p.1,[w])]
 |none=> [(w.p.1,[w])]
def mN (l:List Wr):List (Int×List Wr):=l.foldl ic []
theorem Vo {r:Int}: ∀{B C:List Wr} {out:List (Int×List Wr)},(∀w∈B,w.p.1=r)->B.foldl ic (out++ [(r,C)])=out++ [(r,C++B)]
 | [],C,out,_=>by simp
 |w::B,C,out,h=>by
  have hw:=h w (Av ..)
  have e:ic (out++ [(r,C)]) w=out++ [(r,C++ [w])]:=by
   unfold ic
   rw[List.getLast?_append]
   simp[hw]
  rw[Bm,e,Vo λy hy=>h y (B5 _ hy)]
  simp
theorem Lx {B:List Wr} {out:List (Int×List Wr)} (h: ∀w∈B,w.p.1=r) (ho: ∀q∈out,q.1≠r):B.foldl ic out=out++(if B= []then []else [(r,B)]):=by
 cases B with
 |nil=>simp
 |cons w B=>
  have hw:=h w (Av ..)
  have e:ic out w=out++ [(r,[w])]:=by
   unfold ic
   cases q:out.getLast? with
   |none=>simp_all
   |some p=>
    grind
  grind[Vo]
theorem yU4 {l:List Wr} (h:oA l) (hr: ∀w∈l,w.p.1=0\/w.p.1=1\/w.p.1=2\/w.p.1=3):l=l.filter (λw=>w.p.1==0)++(l.filter (λw=>w.p.1==1)++(l.filter (λw=>w.p.1==2)++l.filter (λw=>w.p.1==3))):=by
 have hl: ∀{a b:Wr},a.p.1<b.p.1->xY a.p b.p=true:=(by grind[xY])
 refine Vn h ?_ λw=> ?_
 .unfold oA at h⊢
  rw[Br,Br,Br]
  refine⟨h.filter _,⟨h.filter _,⟨h.filter _,h.filter _, ?_⟩, ?_⟩, ?_⟩
  .grind
  .grind
  .intro a ha b hb
   have h1:=(Bn.1 ha).2
   rw[Ak,Ak]at hb
   grind
 grind
def gU (l:List Wr) (r:Int):List (Int×List Wr):=if l.filter (λw=>w.p.1==r)= []then []else [(r,l.filter (λw=>w.p.1==r))]
theorem vw {l:List Wr}: ∀q∈gU l r,q.1=r:=(by grind[gU])
theorem Vp {l:List Wr} (h:oA l) (hr: ∀w∈l,w.p.1=0\/w.p.1=1\/w.p.1=2\/w.p.1=3):mN l=gU l 0++(gU l 1++(gU l 2++gU l 3)):=by
 have hb: ∀r:Int,∀w∈l.filter (λw=>w.p.1==r),w.p.1=r:=sm
 have e:=yU4 h hr
 unfold mN
 rw[e,Cc,Cc,Cc,Lx (hb 0) sm]
 have e0: ∀r,(if l.filter (λw=>w.p.1==r)= []then []else [(r,l.filter (λw=>w.p.1==r))])=gU l r:=λ_=>rfl
 rw[<-e,e0,C7,Lx (hb 1) (λq hq=>by rw[vw q hq];decide),e0,
  Lx (hb 2) (λq hq=>by
   rcases Ak.1 hq with hq|hq<;>rw[vw q hq]<;>decide),e0,
  Lx (hb 3) (λq hq=>by
   rcases Ak.1 hq with hq|hq
   .rcases Ak.1 hq with hq|hq<;>rw[vw q hq]<;>decide
   .rw[vw q hq];decide),e0]
 simp
theorem wl3 {g:Int} (he:(fC g).2.2=0): ∃(tn:Nat) (T:bL),(fC g).1=(tn:Int)/\bO[tn]? =some T:=by
 unfold fC at he⊢
 split at he<;>rename_i q0
 .rw[ai2 q0];exact⟨0,_,rfl,rfl⟩
 .rw[ai1 q0]
  split at he<;>rename_i q1
  .rw[ai2 q1];exact⟨0,_,rfl,rfl⟩
  .rw[ai1 q1]
   split at he<;>rename_i q2
   .rw[ai2 q2];exact⟨1,_,rfl,rfl⟩
   .rw[ai1 q2]
    split at he<;>rename_i q3
    .rw[ai2 q3];exact⟨2,_,rfl,rfl⟩
    grind
def xt (x:Ln):Prop:=ma x.r x.k (xL x.v)=true
theorem Vq {data:aiA} (h:ma p.1 p.2 data):fM ⟨p.1,p.2,(ee bO (fC p.1).1 data).1⟩/\xL (ee bO (fC p.1).1 data).1=data:=by
 unfold ma at h
 simp only[Ac,ai7]at h
 obtain⟨h1,h2,h3⟩:=h
 obtain⟨tn,T,aa,hT⟩:=wl3 h1
 have ab:bO.getD tn eQ=T:=by grind
 have db:=U3 tn data
 rw[aa]at h2 h3⊢
 rw[B1,ab]at h3
 have hk:=Lp tn T hT (ee bO tn data).1 (by rw[h3])
 rw[h3]at hk
 refine⟨⟨(by grind),h1,db.2⟩, ?_⟩
 obtain⟨hl,ad⟩:=A4.1 hT
 simp_all[ee,xe2]
theorem Vr {U:Type} {p q:Pl} {v:U} (h:q≠p): ∀{W:List (Pl×U)},dQ p (W++ [(q,v)])=dQ p W
 | []=>by grind[dQ]
 |e::W=>by
  rw[Bs,dQ,dQ,Vr h]
theorem Vs {U:Type} {p q:Pl} {v:U}: ∀{W:List (Pl×U)} {i:Nat} {u:U},dQ p W=some (i,u)->(dQ q (W.set i (p,v))).map (·.2)=if q=p then some v else(dQ q W).map (·.2)
 | [],i,u,h=>by trivial
 |e::W,i,u,h=>by
  rw[dQ]at h
  by_cases c:e.1=p
  .rw[ai2 c]at h
   simp only[ai5,aic]at h
   obtain⟨rfl,rfl⟩:=h
   rw[Cf,dQ,dQ]
   grind
  .rw[ai1 c,Aw]at h
   obtain⟨⟨j,w⟩,h1,h2⟩:=h
   simp only[aic]at h2
   obtain⟨rfl,rfl⟩:=h2
   rw[By,dQ,dQ]
   by_cases d:e.1=q
   .grind
   .rw[ai1 d,ai1 d,Option.map_map,Option.map_map]
    exact Vs h1
theorem O5 (m:Mp U) (p q:Pl) (v:U):(m.put p v).get q=if q=p then some v else m.get q:=by
 unfold Mp.get Mp.put Mp.at
 cases h:dQ p m.W with
 |none=>
  simp only
  by_cases d:q=p
  .subst d
   rw[Lj h,ai2 rfl];rfl
  .rw[Vr (by grind),ai1 d]
 |some w=>grind[Vs]
theorem kX {m:Mp U}:m.get p=none↔m.at p=none:=by
 grind[Mp.get,Option.map_eq_none_iff]
def vx (s:List (Pl×aiA)×List Ln) (q:Pl×aiA):List (Pl×aiA)×List Ln:=
 if(s.1.any λe=>e.1==q.1)=true then s else(s.1++ [q],if ma q.1.1 q.1.2 q.2=true then xr s.2 ⟨q.1.1,q.1.2,(ee bO (fC q.1.1).1 q.2).1⟩else s.2)
structure oB (n:Nat) (s:List (Pl×aiA)×List Ln) (m:M3):Prop where
 same:m.1=m.2.1
 now:cM m.2.1 s.2
 sn:m.2.2.ok
 seen: ∀p,m.2.2.get p=none↔(s.1.any λe=>e.1==p)=false
 OZ: ∀p v,m.2.2.get p=some v->1<=v/\v<=n
 lines: ∀x∈s.2,xt x/\(x.at,xL x.v)∈s.1
 rows: ∀q∈s.1,ma q.1.1 q.1.2 q.2=true-> ∃x∈s.2,x.at=q.1/\xL x.v=q.2
 len:s.2.length<=n
theorem oB.step {n:Nat} {s:List (Pl×aiA)×List Ln} {m:M3} (h:oB n s m) (q:Pl×aiA):oB (n+1) (vx s q) (AX q.1 q.2 m):=by
 obtain⟨p,data⟩:=q
 obtain⟨a,b,c⟩:=m
 obtain⟨se,out⟩:=s
 obtain⟨h1,h2,h3,h4,h6,h5,h7,h8⟩:=h
 simp only at h1 h2 h3 h4 h5 h6 h7 h8
 subst h1
 have aa: ∀w:Int,1<=w->w<=(n:Int)+1-> ∀q v,(c.put p w).get q=some v->1<=v/\v<=((n+1:Nat):Int):=(by grind[O5])
 unfold vx AX
 simp only
 cases hs:se.any λe=>e.1==p with
 |true=>
  have hc:c.get p≠none:=(by grind)
  obtain⟨v,hv⟩:=Option.ne_none_iff_exists'.1 hc
  have ad:lN c p=v:=by unfold lN;grind
  have af:=h6 p v hv
  rw[ai2 rfl,ai1 om,ad]
  refine⟨rfl,h2,Mp.jc h3 _ _,λq=> ?_,aa _ om om,h5,h7,by grind⟩
  grind[O5]
 |false=>
  have hg:=(h4 p).2 hs
  have ad:lN c p=0:=by unfold lN;grind
  have ab: ∀q,(c.put p (0+1)).get q=none↔((se++ [(p,data)]).any λe=>e.1==q)=false:=(by grind[O5])
  rw[ai1 sm,ad]
  by_cases hr:ma p.1 p.2 data=true
  .rw[ai2 hr,ai2 (by grind)]
   obtain⟨hl,hd⟩:=Vq hr
   have ha:jD out p=false:=by
    cases e:jD out p with
    |false=>rfl
    |true=>
     obtain⟨x,hx,ah⟩:=Ab.1 (gi.1 e)
     grind
   have hn:=h2.ins hl ha
   rw[show(Ln.mk p.1 p.2 (ee bO (fC p.1).1 data).1).at=p from rfl,hd]at hn
   refine⟨rfl,hn,Mp.jc h3 _ _,ab,aa _ om om,λx hx=> ?_,λq hq ae=> ?_, ?_⟩
   .rcases Ae.1 ((AY _ _).mem_iff.1 hx)with rfl|hx
    .refine⟨?_,List.mem_append_right _ (B7.2 ?_)⟩
     .show ma p.1 p.2 (xL _)=true
      grind
     .show(p,xL _)=(p,data)
      rw[hd]
    grind
   .rcases Ak.1 hq with hq|hq
    .grind[AY]
    .rw[B7]at hq
     subst hq
     exact⟨_,(AY _ _).mem_iff.2 (Av ..),rfl,hd⟩
   .rw[(AY _ _).length_eq]
    grind
  .rw[ai1 hr,ai1 (by grind)]
   refine⟨rfl,h2,Mp.jc h3 _ _,ab,aa _ om om,(by grind),λq hq ae=> ?_,by grind⟩
   grind
theorem Vt:oB 0 ([],[]) (vt _,vt _,vt _):=by
 refine⟨rfl,⟨UE _,List.Pairwise.nil,List.Perm.nil,sm⟩,UE _,λp=> ?_,λp v h=> ?_,sm,sm,sm⟩
 .exact⟨λ_=>rfl,λ_=>rfl⟩
 trivial
end Go.Proofs.YtplackkccmeioaaGreat
