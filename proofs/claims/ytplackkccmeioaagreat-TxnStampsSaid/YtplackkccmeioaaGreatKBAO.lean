/-
  What the document lays of one range is that range's part of what is otherwise now. Used by the walk of the document's Run.
  Conditions: as each theorem states them.
-/
import Derived.Test.YtplackkccmeioaaGreatKBAN
import Derived.Test.YtplackkccmeioaaGreatKBAF
import Derived.Test.YtplackkccmeioaaGreatKBAK
import Derived.Test.YtplackkccmeioaaGreatKBAG
set_option maxHeartbeats 8000000
namespace Go.Proofs.YtplackkccmeioaaGreat
open Go Go.Vx R Go.Proofs.Tryz
set_option maxRecDepth 100000
structure Ln where
 r:Int
 k:ahP
 v:List bK
variable {U:Type}{b:Mp ahP}{W:List (Pl×U)}{bs:ahQ}{p:Pl}{seen:ahQ}{r:Int}{st:bW}
@[go_sem] def Ln.row (x:Ln):List V:= [.int .i64 x.r,.str x.k,.sl .ro (x.v.map bK.row)]
def Ln.at (x:Ln):Pl:=(x.r,x.k)
def xV (a b:Pl):Bool:=decide (a.1<b.1)||(decide (a.1=b.1)&&Op.bytesLess a.2 b.2)
theorem KC (a:Pl):xV a a=false:=by simp[xV,HE]
theorem HJ {a b c:Pl} (h:xV a b) (g:xV b c):xV a c=true:=by
 simp only[xV,C9,Ab,ahl]at h g⊢
 rcases h with h|⟨h,h'⟩<;>rcases g with g|⟨g,g'⟩
 .exact .inl om
 .exact .inl om
 .exact .inl om
 .exact .inr ⟨om,FQ _ _ _ h' g'⟩
theorem HK (a b:Pl):xV a b=true\/a=b\/xV b a=true:=by
 simp only[xV,C9,Ab,ahl]
 rcases ahL a.1 b.1 with h|h|h
 .exact .inl (.inl h)
 .rcases N0 a.2 b.2 with g|g|g
  .exact .inl (.inr ⟨h,g⟩)
  .exact .inr (.inl (Prod.ext h g))
  .exact .inr (.inr (.inr ⟨h.symm,g⟩))
 .exact .inr (.inr (.inl h))
theorem Oe {a b:Pl} (h:xV a b):xV b a=false:=by
 cases q:xV b a
 .rfl
 .have:=HJ h q;rw[KC]at this;cases this
def fU (l:List Pl):Prop:=l.Pairwise λa b=>xV a b=true
def tD (l:List Ln) (x:Ln):List Ln:=l.takeWhile (λy=>xV y.at x.at)++x::l.dropWhile (λy=>xV y.at x.at)
def il (l:List Ln) (p:Pl):Bool:=l.any λx=>x.at==p
def lg (t:Int) (st:bW) (x:Ln):Bool:=
 (xX t st).any (λg=>(xA t g).1==x.r)&&(!Op.bytesLess x.k (pv bO t st).1&&Op.bytesLess x.k (pv bO t st).2)
def tE (T:bL) (st:bW):List Ln->List Ln->List Ln×Int
 |acc,[]=>(acc,0)
 |acc,x::l=>if(gh T x.v st.cE).2≠0 then([],(gh T x.v st.cE).2)else tE T st (if DT (gh T x.v st.cE).1=true then acc++ [x]else acc) l
def fy (t:Int) (T:bL) (st:bW) (l:List Ln):List Ln×Int:=
 if st.dM=true then tE T st [] (l.filter (lg t st))else(l.filter (lg t st),0)
def dw (T:bL) (row:List bK):List bJ->List bK->List bK×Int
 | [],acc=>(acc,0)
 |e::l,acc=>if(gh T row e).2≠0 then([],(gh T row e).2)else dw T row l (acc++ [(gh T row e).1])
def fG (t:Nat) (T:bL):List (List bJ)->List Ln->List Ln×Int
 | [],l=>(l,0)
 |r::rs,l=>
  if(dw dS [] r []).2≠0 then([],(dw dS [] r []).2)
  else if(ef t T (dw dS [] r []).1).2.2≠0 then([],(ef t T (dw dS [] r []).1).2.2)
  else if il l ((ef t T (dw dS [] r []).1).1,(ef t T (dw dS [] r []).1).2.1)=true then([],18)
  else fG t T rs (tD l ⟨(ef t T (dw dS [] r []).1).1,(ef t T (dw dS [] r []).1).2.1,(dw dS [] r []).1⟩)
def gp (T:bL) (nT:List bK):List cm->List bK->List bK×Int
 | [],row=>(row,0)
 |x::l,row=>if(gh T nT x.e).2≠0 then([],(gh T nT x.e).2)else gp T nT l (row.set (cR T x.name).toNat (gh T nT x.e).1)
def im (l:List Ln) (p:Pl) (row:List bK):List Ln:=l.map λy=>if y.at=p then⟨y.r,y.k,row⟩else y
def fM (T:bL) (cD:List cm):List Ln->List Ln->List Ln×Int
 | [],l=>(l,0)
 |x::m,l=>
  if(gp T x.v cD x.v).2≠0 then([],(gp T x.v cD x.v).2)
  else if eS T.ca (gp T x.v cD x.v).1≠0 then([],eS T.ca (gp T x.v cD x.v).1)
  else fM T cD m (im l x.at (gp T x.v cD x.v).1)
def iq:List Ln->List Ln->List Ln
 | [],l=>l
 |x::m,l=>iq m (l.filter λy=> !decide (y.at=x.at))
def zu (items:List cM):Bool:=items.any λx=>x.kind==3||x.kind==4
def j6 (T:bL) (e:bJ):List Ln->bK->bK×Int
 | [],acc=>(acc,0)
 |x::l,acc=>
  if(gh T x.v e).2≠0 then(zeroV,(gh T x.v e).2)
  else if(gh T x.v e).1.kind=0 then j6 T e l acc
  else if(fc (acc.n+(gh T x.v e).1.n)).2≠0 then(zeroV,(fc (acc.n+(gh T x.v e).1.n)).2)
  else j6 T e l ⟨2,(fc (acc.n+(gh T x.v e).1.n)).1,[]⟩
def qG (T:bL) (l:List Ln):List cM->List bK->List bK×Int
 | [],acc=>(acc,0)
 |x::xs,acc=>
  if x.kind=4 then(if(j6 T x.e l zeroV).2≠0 then([],(j6 T x.e l zeroV).2)else qG T l xs (acc++ [(j6 T x.e l zeroV).1]))
  else qG T l xs (acc++ [⟨2,l.length,[]⟩])
def HL (gt:Ln->Bool) (out:List Ln) (x:Ln):List Ln:=(out.reverse.dropWhile gt).reverse++x::(out.reverse.takeWhile gt).reverse
def qH (c:Nat) (down:Bool) (x y:Ln):Int:=if down=true then -(jm (x.v.getD c zeroV) (y.v.getD c zeroV))else jm (x.v.getD c zeroV) (y.v.getD c zeroV)
def oN (c:Nat) (down:Bool) (l:List Ln):List Ln:=l.foldl (λout x=>HL (λy=>decide (0<qH c down y x)) out x) []
def lh (bQ:Int) (l:List Ln):List Ln:=if 0<=bQ then l.take bQ.toNat else l
def oO (T:bL) (items:List cM):List Ln->List (List bK)->List (List bK)×Int
 | [],acc=>(acc,0)
 |x::l,acc=>
  if(items.head?.map (·.kind))=some 1 then oO T items l (acc++ [x.v])
  else if(dw T x.v (items.map (·.e)) []).2≠0 then([],(dw T x.v (items.map (·.e)) []).2)
  else oO T items l (acc++ [(dw T x.v (items.map (·.e)) []).1])
structure Ot where
 count:Int
 rows:List (List bK)
def Ot.row (x:Ot):List V:= [.sl .ro (x.rows.map λr=> [.sl .ro (r.map bK.row)]),.int .i64 x.count]
def lj (T:bL) (st:bW) (l:List Ln):Ot×Int:=
 if zu st.items=true then(if(qG T l st.items []).2≠0 then(⟨0,[]⟩,(qG T l st.items []).2)else(⟨0,[(qG T l st.items []).1]⟩,0))
 else
  let m:=lh st.bQ (if 0<=cR T st.order then oN (cR T st.order).toNat st.down l else l)
  if(oO T st.items m []).2≠0 then(⟨0,[]⟩,(oO T st.items m []).2)else(⟨0,(oO T st.items m []).1⟩,0)
def jr (st:bW) (l:List Ln):Ot×List Ln×Int:=
 let t:=(yU st.table).toNat
 let T:=bO.getD t dS
 if st.kind=2 then(if(fG t T st.rows l).2≠0 then(⟨0,[]⟩,[],(fG t T st.rows l).2)else(⟨st.rows.length,[]⟩,(fG t T st.rows l).1,0))
 else if(fy t T st l).2≠0 then(⟨0,[]⟩,[],(fy t T st l).2)
 else if st.kind=1 then((lj T st (fy t T st l).1).1,l,(lj T st (fy t T st l).1).2)
 else if st.kind=3 then
  (if(fM T st.cD (fy t T st l).1 l).2≠0 then(⟨0,[]⟩,[],(fM T st.cD (fy t T st l).1 l).2)else(⟨(fy t T st l).1.length,[]⟩,(fM T st.cD (fy t T st l).1 l).1,0))
 else(⟨(fy t T st l).1.length,[]⟩,iq (fy t T st l).1 l,0)
def jF:List bW->Nat->List Ot->List Ln->(Int×Int×List Ot)×List Ln
 | [],_,acc,l=>((0,0,acc),l)
 |x::ss,i,acc,l=>if(jr x l).2.2≠0 then(((jr x l).2.2,(i:Int),[]),[])else jF ss (i+1) (acc++ [(jr x l).1]) (jr x l).2.1
def ff (cK:dR) (l:List Ln):(Int×Int×List Ot)×List Ln:=
 if(mF cK).2≠0 then(((mF cK).2,(mF cK).1,[]),l)else if(jF cK.stmts 0 [] l).1.1≠0 then((jF cK.stmts 0 [] l).1,l)else jF cK.stmts 0 [] l
structure Wr where
 p:Pl
 drop:Bool
 data:ahP
def kI (l:List Wr) (w:Wr):List Wr:=l.takeWhile (λy=>xV y.p w.p)++w::l.dropWhile (λy=>xV y.p w.p)
def iF (px now:List Ln):List Wr:=
 (now.filter λx=> !(px.any λy=>decide (y.at=x.at)&&decide (xI y.v=xI x.v))).foldl (λl x=>kI l ⟨x.at,false,xI x.v⟩)
  ((px.filter λx=> !il now x.at).foldl (λl x=>kI l ⟨x.at,true,[]⟩) [])
theorem HM {ca:List fg} {row:List bK} (hc:ca.length<=20) (hv: ∀v∈row,v.ok) (h:eS ca row=0):iP row:=by
 have hl:=uL h
 refine⟨om,λv aa=> ?_,hv⟩
 rcases N4 (TK h v aa)with ⟨_,_,h3⟩|⟨_,_,h3⟩|⟨_,h3⟩|⟨_,_,h3⟩
 all_goals grind
theorem xs9 (tn:Nat) (T:bL) (hT:bO[tn]? =some T) (row:List bK):tq 3 tn T row (xA tn)=ef tn T row:=by
 unfold tq ef
 by_cases h:eS T.ca row≠0
 .rw[ahg h,ahg h]
 .rw[ahf h,ahf h]
  have hl:=uL (Classical.not_not.1 h)
  have e0:row.headD v0=row.getD 0 zeroV:=by cases row<;>rfl
  rw[e0]
  have ev:v0=zeroV:=rfl
  rw[ev]
  obtain⟨aa,ab⟩:=A3.1 hT
  have h3:tn<3:=aa
  unfold wg xA
  generalize row.getD 0 zeroV=x
  match tn,h3 with
  |0,_=>
   have hp:T.place=0:=by cases hT;decide
   simp only[hp,aho,true_and]
   by_cases q0:x.n=0
   .simp[q0,show min (max (0:Int) (-1)) 4=0 by decide]
   .by_cases q1:x.n=1
    .simp[q1,show min (max (1:Int) (-1)) 4=1 by decide]
    .have n0: ¬min (max x.n (-1)) 4=0:=om
     have n1: ¬min (max x.n (-1)) 4=1:=om
     simp[q0,q1,n0,n1]
  |1,_=>
   have hp: ¬T.place=0:=by cases hT;decide
   simp
  |2,_=>
   have hp: ¬T.place=0:=by cases hT;decide
   simp
theorem Uc (tn:Nat) (T:bL) (hT:bO[tn]? =some T) (row:List bK) (hr:row.length<=maxLen) (hv: ∀v∈row,v.ok):Pure prog 104 [dG bO,.int .i64 tn,.sl .ro (row.map bK.row)] (tu (ef tn T row)):=by
 obtain⟨aa,ab⟩:=A3.1 hT
 have hk:=(by decide: ∀T∈bO,0<=T.key/\T.key<T.ca.length/\T.ca.length<=20) T (by grind)
 rw[<-xs9 tn T hT row]
 exact xz0 xJ bO tn aa T ab row hr (HM hk.2.2 hv) dC om (xA tn) λr h1 h2 h3=>by
  have ad:tn<3:=aa
  exact Hn tn r om om
def fH:Ob:= .box [.sl .ro xJ,.sl .ro (bO.map bL.row),.mp 0,.mp 1,.mp 2]
def df (a b:Mp ahP) (c:Mp Int):St:= [a.ob .str,b.ob .str,c.ob (V.int .i64),fH]
theorem Ud {U:Type} {g:U->V} (hg: ∀v,jq 0 (g v)) (n:Nat): ∀W:List (Pl×U),(gn g W).all (jq n)=true
 | []=>rfl
 |e::W=>by
  rw[gn,Bv,Bv,Ud hg n W,QC om (hg e.2)]
  rfl
theorem Ue {g:U->V} (hg: ∀v,jq 0 (g v)) (n:Nat) (m:Mp U):bT n (m.ob g)=true:=Ud hg n m.W
theorem wA (n:Nat) (h:3<=n) (a b:Mp ahP) (c:Mp Int):(df a b c).all (bT n)=true:=by
 have h0:decide (0<n)=true:=(by grind)
 have h1:decide (1<n)=true:=(by grind)
 have h2:decide (2<n)=true:=(by grind)
 simp only[df,Bv,Dj,Dn,Ue (g:=V.str) (λ_=>rfl),Ue (g:=V.int .i64) (λ_=>rfl),B7]
 simp_all[fH,bT,cQ,cL]
def lk (c:Mp Int) (p:Pl):Int:=(c.get p).getD 0
def nU (dv:Int) (key data:ahP):Bool:=
 decide ((fT dv).2.2=0)&&(decide ((eF bO (fT dv).1 data).2=0)&&decide (ef (fT dv).1.toNat (bO.getD (fT dv).1.toNat dS) (eF bO (fT dv).1 data).1=(dv,key,0)))
def qI (m:Mp ahP×Mp ahP×Mp Int):St:=df m.1 m.2.1 m.2.2
abbrev M3:=Mp ahP×Mp ahP×Mp Int
def zw (p:Pl) (data:ahP) (m:M3):M3:=
 if lk m.2.2 p=0/\nU p.1 p.2 data=true then(m.1.put p data,m.2.1.put p data,m.2.2.put p (lk m.2.2 p+1))else(m.1,m.2.1,m.2.2.put p (lk m.2.2 p+1))
theorem xR4 {u:Nat} (h:u<18446744073709551616): -9223372036854775808<=kC u/\kC u<=9223372036854775807:=by
 grind[kC]
theorem Uf:(v0:bK).ok:=⟨dC,dC,dC⟩
theorem Of {k n:Int} {s:ahP} (h1: -9223372036854775808<=k/\k<=9223372036854775807) (h2: -9223372036854775808<=n/\n<=9223372036854775807) (h3:s.length<=maxLen):(bK.mk k n s).ok:=⟨h1,h2,h3⟩
theorem xx2: ∀b:ahP,(la b).v.ok
 | []=>Uf
 |c::rest=>by
  grind[la,oG,Uf,uD,Of,xR4,Kb,maxLen]
theorem Ug: ∀(n:Nat) (b:ahP) (l:List bK),ik n b=some l->l.length=n/\ ∀v∈l,v.ok
 |0,b,l,h=>by
  rw[ik]at h
  grind
 |n+1,b,l,h=>by
  rw[ik]at h
  split at h
  .rw[Aw]at h
   obtain⟨l',h1,rfl⟩:=h
   obtain⟨h2,h3⟩:=Ug n _ l' h1
   refine⟨by grind,λv hv=> ?_⟩
   rcases Af.1 hv with rfl|hv
   all_goals grind[xx2]
  grind
theorem Uh (t:Nat) (data:ahP):(eF bO t data).1.length<=maxLen/\ ∀v∈(eF bO t data).1,v.ok:=by
 have h0:([]:List bK).length<=maxLen/\ ∀v∈([]:List bK),v.ok:=sm
 unfold eF
 split
 .rename_i h
  have hc:=(by decide: ∀T∈bO,T.ca.length<=maxLen) (bO[(t:Int).toNat]'om) sm
  unfold R.jB
  split
  .unfold sZ
   grind[Ug]
  omega
 omega
theorem wm0 (g:Nat) (hg:g<1000) (key data:ahP) (hd:data.length<=du) (a b:Mp ahP) (sn:Mp Int) (ha:a.ok) (ai:b.ok) (hs:sn.ok) (a1:sn.at (g,key)=none->a.at (g,key)=none/\b.at (g,key)=none) (av: ∀i v,sn.at (g,key)=some (i,v)->1<=v/\v<=1000000):
  bN prog 58 [.ptr 3 0,.int .i64 g,.agg [.str key,.str data]] (df a b sn) (λr s=>r= .cy []/\s=qI (zw (g,key) data (a,b,sn))):=by
 obtain⟨M,hM⟩:=eX (zw (g,key) data (a,b,sn))
 rw[hM]
 have ret: ∀(a' b':Mp ahP) (aj:Mp Int) (Il:St),M=(a',b',aj)->cw (some (.cy [])) 4 (λr s=>r= .cy []/\s=qI M) (a'.ob .str::b'.ob .str::aj.ob (V.int .i64):: .box [.sl .ro xJ,.sl .ro (bO.map bL.row),.mp 0,.mp 1,.mp 2]::Il):=λa' b' aj Il h=>by
  subst h
  exact yX 4 rfl rfl (wA 4 dC a' b' aj) om (zC rfl) (by trivial)
 have a6:=Ho g hg
 refine iV 4 func58 ntmps58 results58 λc hc hb=> ?_
 refine zA ?_
 simp[go_sem,df,fH]
 refine pC a6 ?_
 simp[go_sem,FD]
 obtain⟨ob,ao⟩: ∃ob:Ob->R,ob=λo=>xW (some (tw,.int .i64 0)) [o] (.mp 0) (gO (g,key)) false:=⟨_,rfl⟩
 obtain⟨k1,aw⟩:=eX (lk sn (g,key))
 cases aa:sn.at (g,key)with
 |none=>
  have ad:=Mp.get_none aa
  have ae:k1=0:=by rw[<-aw];unfold lk;grind
  subst ae
  refine MI [(5,1),(7,3)] ⟨0,6,[2],some (2,ob)⟩ sm (by rfl) kR ?_
  simp[go_sem]
  refine QZ (kv:=gO (g,key)) (id:=2) (n0:=⟨0,6,[2],some (2,ob)⟩) (by rfl) (by rfl) Tryz.pj ao rfl sm (Ky (m:=sn) rfl (g,key) false) ?_
  simp[go_sem,ad]
  refine Jz ?_ ?_
  .simp[go_sem,T9 hs aa]
   refine⟨sm,λ_=> .inr ?_⟩
   exact Kp.yn (k:=⟨0,6,[2],some (2,ob)⟩) (I:= [a.ob .str,b.ob .str,sn.ob (V.int .i64),fH,.box [.str key,.str data],.box [.int .i64 g,.str key]]) (id:=2) (o:=sn.ob (V.int .i64)) (o':=(sn.mj (g,key) 0).ob (V.int .i64)) rfl rfl (λq hq _=>by cases hq;rw[ao];first|done|exact xC9 rfl aa)
  simp[go_sem,T9 hs aa,Ub hs]
  obtain⟨i1,aq⟩:=Mp.tC sn (g,key) 1
  by_cases he:(fT g).2.2=0
  rotate_left
  .have ab:((fT g).2.2 !=0)=true:=by grind
   refine yL [] 6 sm (by rfl) kR ?_
   simp[go_sem,ab]
   exact ret a b _ _ (by grind[zw,nU])
  have ab:((fT g).2.2 !=0)=false:=by grind
  have e1:(sn.put (g,key) 1).ob (V.int .i64)= .mp (gn (V.int .i64) (sn.put (g,key) 1).W) (sn.put (g,key) 1).bs (sn.put (g,key) 1).cS:=rfl
  refine yL [] 6 sm (by rfl) kR ?_
  simp[go_sem,ab,e1,oM,aq,kX,lz]
  rw[<-e1]
  obtain⟨ax,ay⟩:=a1 aa
  obtain⟨tn,T,a7,hT⟩: ∃(tn:Nat) (T:bL),(fT g).1=(tn:Int)/\bO[tn]? =some T:=by
   unfold fT at he⊢
   split at he<;>rename_i q0
   .rw[ahg q0];exact⟨0,_,rfl,rfl⟩
   .rw[ahf q0]
    split at he<;>rename_i q1
    .rw[ahg q1];exact⟨0,_,rfl,rfl⟩
    .rw[ahf q1]
     split at he<;>rename_i q2
     .rw[ahg q2];exact⟨1,_,rfl,rfl⟩
     .rw[ahf q2]
      split at he<;>rename_i q3
      .rw[ahg q3];exact⟨2,_,rfl,rfl⟩
      grind
  have aE:bO.getD tn dS=T:=by grind
  have al:=Sj xJ bO tn data hd dC
  have af:=Uh tn data
  obtain⟨rf,a8⟩:=eX (eF bO tn data)
  rw[a8]at al af
  have an:=Uc tn T hT rf.1 af.1 af.2
  obtain⟨ks,aA⟩:=eX (ef tn T rf.1)
  rw[aA]at an
  have aB:nU g key data=(decide (rf.2=0)&&decide (ks=(((g:Nat):Int),key,0))):=by
   grind[nU]
  have aC:M=if nU g key data=true then(a.put (g,key) data,b.put (g,key) data,sn.put (g,key) 1)else(a,b,sn.put (g,key) 1):=by
   grind[zw]
  rw[aB]at aC
  obtain⟨kr,kk,ke⟩:=ks
  refine zA ?_
  refine yL [(7,0)] 6 sm (by rfl) kR ?_
  simp[go_sem,a7]
  refine pD al ?_
  simp[go_sem,eD]
  by_cases r0:rf.2=0
  rotate_left
  .have ar:(rf.2 !=0)=true:=by grind
   simp[go_sem,ar]
   exact ret a b _ _ (by grind)
  have ar:(rf.2 !=0)=false:=by grind
  simp[go_sem,ar]
  refine pC an ?_
  simp[go_sem,tu]
  by_cases k0:ke=0
  rotate_left
  .have ah:(ke==0)=false:=by grind
   simp[go_sem,ah]
   exact ret a b _ _ (by grind)
  have ah:(ke==0)=true:=by grind
  by_cases k2:kr=((g:Nat):Int)
  rotate_left
  .have ak:(kr==((g:Nat):Int))=false:=by grind
   simp[go_sem,ah,ak]
   exact ret a b _ _ (by grind)
  have ak:(kr==((g:Nat):Int))=true:=by grind
  by_cases k3:kk=key
  rotate_left
  .have au:(kk==key)=false:=by grind
   simp[go_sem,ah,ak,au]
   exact ret a b _ _ (by grind)
  have au:(kk==key)=true:=by grind
  simp[go_sem,ah,ak,au]
  refine MI [(14,3),(16,3),(17,3),(19,3)] ⟨0,6,[0,1],none⟩ sm (by rfl) kR ?_
  simp[go_sem]
  have keep: ∀(τ:St) (i:Nat) (o o':Ob),([0,1]:ahQ).contains i=true->τ[i]? =some o->Kp.of ⟨0,6,[0,1],none⟩ (τ.set i o')=Kp.of ⟨0,6,[0,1],none⟩ τ:=(by grind[Kp.yn])
  refine Jz ?_ ?_
  .simp[go_sem,KA ha ax]
   refine⟨sm,λ_=> .inr ?_⟩
   rfl
  simp[go_sem,KA ha ax]
  refine QX ?_ ?_
  .simp[go_sem,KB ha]
   refine⟨sm,λ_=> .inr ?_⟩
   rfl
  simp[go_sem,KB ha]
  refine Jz ?_ ?_
  .simp[go_sem,KA ai ay]
   refine⟨sm,λ_=> .inr ?_⟩
   rfl
  simp[go_sem,KA ai ay]
  refine QX ?_ ?_
  .simp[go_sem,KB ai]
   refine⟨sm,λ_=> .inr ?_⟩
   rfl
  simp[go_sem,KB ai]
  exact ret (a.put (g,key) data) (b.put (g,key) data) _ _ (by grind)
 |some q=>
  obtain⟨i,v⟩:=q
  obtain⟨aF,aG⟩:=av i v aa
  have ad:=Mp.get_some aa
  have ae:k1=v:=by rw[<-aw];unfold lk;grind
  subst ae
  have aD:IntKind.i64.wrap (k1+1)=k1+1:=(by grind[bX])
  have az:M=(a,b,sn.put (g,key) (k1+1)):=by
   rw[<-hM];unfold zw;grind
  refine MI [(5,1),(7,3)] ⟨0,6,[2],some (2,ob)⟩ sm (by rfl) kR ?_
  simp[go_sem]
  refine QZ (kv:=gO (g,key)) (id:=2) (n0:=⟨0,6,[2],some (2,ob)⟩) (by rfl) (by rfl) Tryz.pj ao rfl sm (Ky (m:=sn) rfl (g,key) false) ?_
  simp[go_sem,ad,aD]
  refine Jz ?_ ?_
  .simp[go_sem,Ua hs aa]
   trivial
  simp[go_sem,Ua hs aa,yA7 hs aa]
  obtain⟨i1,aq⟩:=Mp.tC sn (g,key) (k1+1)
  by_cases he:(fT g).2.2=0
  rotate_left
  .have ab:((fT g).2.2 !=0)=true:=by grind
   refine yL [] 6 sm (by rfl) kR ?_
   simp[go_sem,ab]
   exact ret a b _ _ az
  have ab:((fT g).2.2 !=0)=false:=by grind
  have e1:(sn.put (g,key) (k1+1)).ob (V.int .i64)= .mp (gn (V.int .i64) (sn.put (g,key) (k1+1)).W) (sn.put (g,key) (k1+1)).bs (sn.put (g,key) (k1+1)).cS:=rfl
  have h1:decide (k1+1>1)=true:=(by grind)
  have aH:decide (1<k1+1)=true:=om
  refine yL [] 6 sm (by rfl) kR ?_
  simp[go_sem,ab,e1,oM,aq,kX,lz,h1]
  exact ret a b _ _ az
structure fB (x:Ln):Prop where
 jn: ∃(tn:Nat) (T:bL),(fT x.r).1=(tn:Int)/\bO[tn]? =some T/\eS T.ca x.v=0
 err:(fT x.r).2.2=0
 ok: ∀v∈x.v,v.ok
structure cI (b:Mp ahP) (l:List Ln):Prop where
 ok:b.ok
 j7:fU (l.map Ln.at)
 perm:b.W.Perm (l.map λx=>(x.at,xI x.v))
 rows: ∀x∈l,fB x
theorem fU.nodup {l:List Pl} (h:fU l):l.Nodup:=h.imp (by grind[KC])
theorem uN (l:List Ln) (x:Ln):(tD l x).Perm (x::l):=by
 grind[tD,Cn,Df]
theorem fV {l:List Ln}:il l p=true↔p∈l.map Ln.at:=by
 grind[il]
theorem Ui {p:Pl}: ∀{l:List Ln},fU (l.map Ln.at)->p∉l.map Ln.at-> ∀y∈l.dropWhile (λy=>xV y.at p),xV p y.at=true
 | [],_,_,y,hy=>by simp_all
 |z::l,hr,hn,y,hy=>by
  unfold fU at hr
  rw[Ai,Cb]at hr
  rw[List.dropWhile_cons]at hy
  by_cases q:xV z.at p=true
  .rw[ahg q]at hy
   exact Ui (l:=l) hr.2 (by grind) y hy
  .rw[ahf q]at hy
   have hz:xV p z.at:=by
    grind[HK]
   rcases Af.1 hy with rfl|hy
   .exact hz
   .exact HJ hz (by grind)
theorem Og {U:Type} {p:U->Bool}: ∀{l:List U},∀y∈l.takeWhile p,p y=true
 | [],y,hy=>by simp_all
 |z::l,y,hy=>by
  rw[List.takeWhile_cons]at hy
  by_cases q:p z=true
  .rw[ahg q]at hy
   rcases Af.1 hy with rfl|hy
   .exact q
   .exact Og (l:=l) y hy
  grind
theorem KD {l:List Ln} {x:Ln} (h:fU (l.map Ln.at)) (hn:il l x.at=false):fU ((tD l x).map Ln.at):=by
 have aa:x.at∉l.map Ln.at:=λq=>by rw[fV.2 q]at hn;cases hn
 have hd:=Ui h aa
 have ht: ∀y∈l.takeWhile (λy:Ln=>xV y.at x.at),xV y.at x.at=true:=Og
 have hl:=Cn (p:=λy:Ln=>xV y.at x.at) (l:=l)
 unfold tD
 rw[<-hl]at h
 revert hd ht h
 generalize l.takeWhile (λy:Ln=>xV y.at x.at)=t
 generalize l.dropWhile (λy:Ln=>xV y.at x.at)=d
 intro h hd ht
 unfold fU at h⊢
 rw[C3,Bl]at h
 rw[C3,Ai,Bl,Cb]
 grind
theorem cI.gG {l:List Ln} (h:cI b l):b.at p=none↔il l p=false:=by
 constructor
 .intro q
  cases r:il l p with
  |false=>rfl
  |true=>
   obtain⟨x,hx,he⟩:=Ac.1 (fV.1 r)
   have:(p,xI x.v)∈b.W:=h.perm.mem_iff.2 (by grind)
   exact absurd rfl (Kx q _ this)
 .intro q
  cases r:b.at p with
  |none=>rfl
  |some w=>
   have hm:(p,w.2)∈b.W:=Bk (wi (W:=b.W) (i:=w.1) (v:=w.2) r)
   obtain⟨x,hx,he⟩:=Ac.1 (h.perm.mem_iff.1 hm)
   have:x.at=p:=(by grind)
   rw[fV.2 (by grind)]at q
   cases q
theorem cI.ins {l:List Ln} (h:cI b l) {x:Ln} (hx:fB x) (hn:il l x.at=false):cI (b.put x.at (xI x.v)) (tD l x):=by
 have hb:=h.gG.2 hn
 refine⟨Mp.iS h.ok _ _,KD h.j7 hn, ?_,λy hy=> ?_⟩
 .have e:(b.put x.at (xI x.v)).W=b.W++ [(x.at,xI x.v)]:=by grind[Mp.put]
  rw[e]
  have h1:=((uN l x).map λx:Ln=>(x.at,xI x.v)).symm
  refine List.Perm.trans ?_ h1
  rw[Ai]
  exact(List.perm_append_singleton _ _).trans (h.perm.cons _)
 .rcases Af.1 ((uN l x).mem_iff.1 hy)with rfl|hy
  .exact hx
  .exact h.rows y hy
theorem KE: ∀(r:List bJ) (acc:List bK),(∀e∈r,ja e)->(∀v∈acc,v.ok)->(dw dS [] r acc).2=0->(dw dS [] r acc).1.length=acc.length+r.length/\ ∀v∈(dw dS [] r acc).1,v.ok
 | [],acc,_,ha,_=>⟨rfl,ha⟩
 |e::r,acc,he,ha,h=>by
  rw[dw]at h⊢
  by_cases q:(gh dS [] e).2=0
  .rw[ahf (λh=>h q)]at h⊢
   have hv:(gh dS [] e).1.ok:=by
    have:=TF (he e sm) (by rw[<-HG];exact q)
    rw[HG]
    exact(TM this).1
   have ih:=KE r (acc++ [(gh dS [] e).1]) (λx hx=>he x (by simp[hx])) (λv aa=>by
    rcases Al.1 aa with h|h
    .exact ha v h
    .simp at h;subst h;exact hv) h
   exact⟨by rw[ih.1];simp;omega,ih.2⟩
  .rw[ahg q]at h;exact absurd h q
def dV:List V:= [.sl .full [],.int .i64 0]
def HN (a:Mp ahP) (sn:Mp Int) (Oh:Int) (M:List Ln×Int) (r:V) (s:St):Prop:=
 ∃(b':Mp ahP),s=df a b' sn/\((M.2≠0/\r= .cy [.agg (Ot.row ⟨0,[]⟩),.int .i64 M.2])\/(M.2=0/\r= .cy [.agg (Ot.row ⟨Oh,[]⟩),.int .i64 0]/\cI b' M.1))
theorem xK9 {k d:ahP} (h:b.at (r,k)=none):Ob.mp (gn V.str b.W++ [.agg [.int .i64 r,.str k],.str d]) (b.bs++ [b.cS]) (b.cS+1)=(b.put (r,k) d).ob V.str:=by
 unfold Mp.put Mp.ob
 rw[h]
 show _=Ob.mp (gn V.str (b.W++ [((r,k),d)])) _ _
 rw[<-TZ]
 rfl
theorem KF (tn:Nat) (T:bL) (hT:bO[tn]? =some T) (row:List bK) (h:(ef tn T row).2.2=0):eS T.ca row=0/\(fT (ef tn T row).1).1=(tn:Int)/\(fT (ef tn T row).1).2.2=0:=by
 obtain⟨aa,_⟩:=A3.1 hT
 have h3:tn<3:=aa
 unfold ef at h⊢
 by_cases h1:eS T.ca row≠0
 .rw[ahg h1]at h;exact absurd h h1
 .rw[ahf h1]at h⊢
  refine⟨Classical.not_not.1 h1, ?_⟩
  unfold wg
  generalize row.getD 0 zeroV=x at h⊢
  match tn,h3 with
  |0,_=>
   by_cases h2:x.n=0\/x.n=1
   .rw[ahf (λq=>q.2 h2)]
    rcases h2 with h2|h2
    .simp[xA,fT,h2]
    .simp[xA,fT,h2]
   .rw[ahg ⟨rfl,h2⟩]at h;cases h
  |1,_=>simp[xA,fT]
  |2,_=>simp[xA,fT]
theorem yS8 (tn:Nat) (T:bL) (hT:bO[tn]? =some T) (st:bW) (a6:kO st) (a b:Mp ahP) (sn:Mp Int) (l:List Ln) (av:cI b l):
  bN prog 105 [.ptr 3 0,.int .i64 tn,.agg st.row] (df a b sn) (HN a sn st.rows.length (fG tn T st.rows l)):=by
 obtain⟨R,hR⟩:=eX st.rows
 obtain⟨a7,aw⟩:=a6.rows
 rw[hR]at a7 aw⊢
 generalize hM:fG tn T R l=M
 have bad: ∀(b':Mp ahP) (e:Int) (Il:St),M.2=e->e≠0->cw (some (.cy [.agg [.sl .full [],.int .i64 0],.int .i64 e])) 4 (HN a sn R.length M) (a.ob .str::b'.ob .str::sn.ob (V.int .i64):: .box [.sl .ro xJ,.sl .ro (bO.map bL.row),.mp 0,.mp 1,.mp 2]::Il):=λb' e Il h1 h2=>
  yX 4 (s:=df a b' sn) (r:= .cy [.agg (Ot.row ⟨0,[]⟩),.int .i64 e]) rfl rfl (wA 4 dC a b' sn) (A7 _) (yZ ⟨wT ⟨zW,zF rfl,tV⟩,xZ rfl,tV⟩) ⟨b',rfl,.inl ⟨by rw[h1];exact h2,by rw[h1]⟩⟩
 have ao: ∀(b':Mp ahP) (n:Nat),6<=n->([a.ob .str,b'.ob .str,sn.ob (V.int .i64),.box [.sl .ro xJ,.sl .ro (bO.map bL.row),.mp 0,.mp 1,.mp 2],.box st.row,.box dV]:St).all (bT n)=true:=λb' n hn=>by
  have h:=wA n om a b' sn
  simp only[df,fH,Bv,Dj,Dn]at h⊢
  rw[Ab,Ab,Ab]at h⊢
  refine⟨h.1,h.2.1,h.2.2.1, ?_⟩
  rw[Ab]
  exact⟨h.2.2.2,by simp[bT,cQ,cL,bW.row,dV]⟩
 have ak: ∀(b':Mp ahP) (k:Nat),([a.ob .str,b'.ob .str,sn.ob (V.int .i64),.box [.sl .ro xJ,.sl .ro (bO.map bL.row),.mp 0,.mp 1,.mp 2],.box st.row,.box dV,.app k 3]:St).all (bT 7)=true:=λb' k=>by
  have h:=ao b' 7 dC
  simp only[Bv,Dj,Dn]at h⊢
  rw[show bT 7 (.app k 3)=true from rfl,Dn]
  exact h
 refine iV 4 func105 ntmps105 results105 λc hc hb=> ?_
 refine zA ?_
 simp[go_sem,df,fH,hR]
 refine zI (S:=Nat×Mp ahP×List Ln) [0,1,5,6,22,23,24] (λu=> [.ptr 3 0,.int .i64 tn,.ptr 4 0,.ptr 5 0,.sl .ro (R.map λ(l:List bJ)=> [V.sl .ro (l.map bJ.row)]),.int .i64 R.length,.int .i64 u.1])
  (λu=> [a.ob .str,u.2.1.ob .str,sn.ob (V.int .i64),.box [.sl .ro xJ,.sl .ro (bO.map bL.row),.mp 0,.mp 1,.mp 2],.box st.row,.box dV]) (λu=>R.length - u.1)
  (λu=>u.1<=R.length/\cI u.2.1 u.2.2/\fG tn T (R.drop u.1) u.2.2=M) hc hb (0,b,l) ⟨A4 _,av,hM⟩ ?_ ?_
 .exact cd 6 (by simp[go_sem,hR,dV]) rfl (ao b 6 dC) dC (zD sg rfl)
 rintro⟨i,b1,l1⟩ ⟨hi,af,aa⟩
 simp only at hi af aa
 by_cases q:i<R.length
 rotate_left
 .rw[A9 om,fG]at aa
  subst aa
  refine zA ?_
  simp[go_sem,q,hR,dV]
  exact yX 4 (s:=df a b1 sn) (r:= .cy [.agg (Ot.row ⟨R.length,[]⟩),.int .i64 0]) rfl rfl (wA 4 dC a b1 sn) (A7 _) (yZ ⟨wT ⟨zW,zF rfl,tV⟩,xZ rfl,tV⟩) ⟨b1,rfl,.inr ⟨rfl,rfl,af⟩⟩
 have ei:=zQ q om
 obtain⟨x,hx⟩:=eX (R[i])
 obtain⟨aG,ax⟩:=aw x (hx▸A8 q)
 have ay:=KE x [] ax (λv hv=>by cases hv)
 rw[A5 q,hx,fG]at aa
 obtain⟨E,hE⟩:=eX (dw dS [] x [])
 rw[hE]at aa ay
 refine zA ?_
 simp[go_sem,q,hx]
 refine lE 10 3 dC sg ?_
 refine zI (S:=Nat×List bK) [0,1,5,6,10,22,23,24,28,29,30] (λu=> [.ptr 3 0,.int .i64 tn,.ptr 4 0,.ptr 5 0,.sl (.app 6) (u.2.map bK.row),.sl .ro (R.map λ(l:List bJ)=> [V.sl .ro (l.map bJ.row)]),.int .i64 R.length,.int .i64 i,.sl .ro (x.map bJ.row),.int .i64 x.length,.int .i64 u.1])
  (λu=> [a.ob .str,b1.ob .str,sn.ob (V.int .i64),.box [.sl .ro xJ,.sl .ro (bO.map bL.row),.mp 0,.mp 1,.mp 2],.box st.row,.box dV,.app u.2.length 3]) (λu=>x.length - u.1)
  (λu=>u.1<=x.length/\u.2.length<=u.1/\dw dS [] (x.drop u.1) u.2=E) hc hb (0,[]) ⟨A4 _,A7 _,hE⟩ ?_ ?_
 .exact cd 7 (by simp[go_sem,dV]) rfl (ak b1 _) dC (zD sg rfl)
 rintro⟨j,acc⟩ ⟨hj,a8,ab⟩
 simp only at hj a8 ab
 by_cases qj:j<x.length
 .have ej:=zQ qj om
  obtain⟨e,he⟩:=eX (x[j])
  have aA:=ax e (he▸A8 qj)
  rw[A5 qj,he,dw,HG]at ab
  have ah:=NZ e aA
  obtain⟨kv,aB⟩:=eX (jE e)
  rw[aB]at ab ah
  refine zA ?_
  simp[go_sem,qj,he]
  refine zL ah cB ⟨wL ⟨zF rfl,zW,zF rfl,zF rfl,zF rfl,zW,zW,zW,zF rfl,zF rfl,zF rfl,tV⟩,zK,zO sg (by rw[bJ.bS];rfl)⟩ rfl ?_
  simp[go_sem,fe]
  by_cases q2:kv.2=0
  rotate_left
  .have aq:(kv.2 !=0)=true:=sU q2
   rw[ahg q2]at ab
   subst ab
   simp only at aa
   rw[ahg q2]at aa
   simp[go_sem,aq,dV]
   exact bad b1 kv.2 _ (by rw[<-aa]) q2
  have aq:(kv.2 !=0)=false:=sU q2
  rw[ahf (λh=>h q2)]at ab
  simp[go_sem,aq]
  refine zJ ⟨om,zY rfl⟩ ?_
  simp[go_sem,ej]
  exact zH (j+1,acc++ [kv.1]) ⟨by show x.length - (j+1)<x.length - j;omega,⟨qj,by show(acc++ [kv.1]).length<=j+1;simp;omega,ab⟩,cd 7 (by simp[go_sem,dV]) rfl (ak b1 _) dC (zD sg rfl)⟩
 rw[A9 om,dw]at ab
 subst ab
 obtain⟨_,aj⟩:=ay rfl
 simp only at aa aj
 rw[ahf (λh=>h rfl)]at aa
 have al:=Uc tn T hT acc (by unfold maxLen;omega) aj
 have ai:=KF tn T hT acc
 obtain⟨⟨kr,kk,ke⟩,aC⟩: ∃ks,ef tn T acc=ks:=⟨_,rfl⟩
 rw[aC]at aa al ai
 simp only at aa ai
 refine zA ?_
 simp[go_sem,qj]
 refine pC al ?_
 simp[go_sem,tu]
 by_cases k0:ke=0
 rotate_left
 .have ar:(ke !=0)=true:=sU k0
  rw[ahg k0]at aa
  simp[go_sem,ar,dV]
  exact bad b1 ke _ (by rw[<-aa]) k0
 have ar:(ke !=0)=false:=sU k0
 rw[ahf (λh=>h k0)]at aa
 obtain⟨an,aD,aE⟩:=ai k0
 have aF:=HM ((by decide: ∀T∈bO,T.ca.length<=20) T (Bk hT)) aj an
 have au:=Se acc aF
 have eB:b1.ob .str= .mp (gn .str b1.W) b1.bs b1.cS:=rfl
 simp[go_sem,ar]
 cases ae:b1.at (kr,kk)with
 |some w=>
  have hA:il l1 (kr,kk)=true:=by
   cases r:il l1 (kr,kk)with
   |true=>rfl
   |false=>rw[af.gG.2 r]at ae;cases ae
  rw[ahg hA]at aa
  have ad:dO (kr,kk) b1.W=some w:=ae
  refine yL [] 8 sm kR kR ?_
  simp[go_sem,eB,oM,ad,kX,lz,dV]
  rw[<-eB]
  exact bad b1 18 _ (by rw[<-aa]) dC
 |none=>
  have hA:=af.gG.1 ae
  rw[ahf (by rw[hA];decide)]at aa
  have ad:dO (kr,kk) b1.W=none:=ae
  have az:=xK9 (d:=xI acc) ae
  have a1:=af.ins (x:=⟨kr,kk,acc⟩) ⟨⟨tn,T,aD,hT,an⟩,aE,aj⟩ hA
  refine yL [] 8 sm kR kR ?_
  simp[go_sem,eB,oM,ad,kX,lz]
  refine zA ?_
  refine yL [(6,0)] 8 sm kR kR ?_
  simp[go_sem]
  refine pD au ?_
  simp[go_sem,oM,ad,kX,lz,az,ei]
  exact zH (i+1,b1.put (kr,kk) (xI acc),tD l1 ⟨kr,kk,acc⟩) ⟨by show R.length - (i+1)<R.length - i;omega,⟨q,a1,aa⟩,cd 6 (by simp[go_sem,dV]) rfl (ao _ 6 dC) dC (zD sg rfl)⟩
theorem Uj (l:List bK) (hl:l.length<=10000) (hz:l≠ []):bN prog 95 [.sl .ro (l.map bK.row)] [] (λr s=>r= .cJ 0 3 l.length 0 l.length/\s= [.cj (l.map bK.row) 3]):=by
 refine iV 0 func95 ntmps95 results95 λc hc hb=> ?_
 refine y5 7 dC ?_
 refine zA ?_
 have hp:0<l.length:=by cases l with
  |nil=>exact absurd rfl hz
  |cons a l=>simp
 have hu:eI 3 (l.map bK.row):=by
  intro r hr
  obtain⟨v,_,rfl⟩:=Ac.1 hr
  rfl
 simp[go_sem,hp]
 refine zJ ⟨om,by simp[eI],hu⟩ ?_
 simp[go_sem]
 exact GI sm ⟨rfl,rfl⟩
theorem KG (T:bL) (hT:T.ca.length<=maxLen) (row:List bK) (hv: ∀v∈row,v.ok) (e:bJ) (he:ja e):Pure prog 152 [.agg T.row,.sl .ro (row.map bK.row),.agg e.row] (fe (gh T row e)):=by
 have ao:=Kj T hT e he
 have cN:= @TL T row
 generalize hM:gh T row e=M
 unfold gh at hM
 have ret: ∀(v:bK) (e:Int) (I:St),(v,e)=M->cw (some (.cy [.agg v.row,.int .i64 e])) 0 (λr s=>r=fe M/\s= []) I:=λv e I h=>wa h
 refine iV 0 func152 ntmps152 results152 λc hc hb=> ?_
 refine zA ?_
 simp[go_sem]
 refine zL ao cB (zO sg (by rw[bJ.bS];rfl)) rfl ?_
 simp[go_sem,wF]
 by_cases q:(iD T e).2=0
 rotate_left
 .have q':((iD T e).2 !=0)=true:=sU q
  rw[ahg q]at hM
  simp[go_sem,q']
  exact ret zeroV _ _ hM
 have q':((iD T e).2 !=0)=false:=sU q
 have n1: ¬(iD T e).2≠0:=λh=>h q
 rw[ahf n1]at hM
 by_cases hlen:row.length=T.ca.length
 rotate_left
 .have h1:((row.length:Int) !=T.ca.length)=true:=by simp;omega
  rw[ahg (by unfold DU;rw[ahh hlen,Dp])]at hM
  simp[go_sem,q',h1]
  exact ret zeroV 9 _ hM
 have h1:((row.length:Int) !=T.ca.length)=false:=by simp;omega
 obtain⟨mr,aj⟩:=eX (DU T.ca row)
 have aa:=aj
 unfold DU at aa
 rw[ahi hlen,B7]at aa
 rw[aj]at hM cN
 simp[go_sem,q',h1]
 refine zI (S:=Nat×bK) [1,3,5,6,29,30,31] (λu=> [.sl .ro (row.map bK.row),.ptr 0 0,.ptr 1 0,.ptr 2 0,.sl .ro (row.map bK.row),.int .i64 row.length,.int .i64 u.1])
   (λu=> [.box T.row,.box e.row,.box u.2.row]) (λu=>row.length - u.1) (λu=>u.1<=row.length/\(((row.zip T.ca).drop u.1).all λp=>HF p.1 p.2)=mr) hc hb (0,zeroV) ⟨A4 _,aa⟩ ?_ ?_
 .exact cd 3 (by simp[go_sem,zeroV]) rfl (by simp[bT,cQ,cL,bJ.bS,bL.row,bK.row]) (A4 _) (zD sg rfl)
 rintro⟨i,v0⟩ ⟨hi,hinv⟩
 simp only at hi hinv
 by_cases p:i<row.length
 rotate_left
 .rw[A9 (by rw[List.length_zip];omega)]at hinv
  have hm:mr:=hinv.symm
  rw[ahf (by rw[hm];decide)]at hM
  have ak:=cN hm hv
  have ab:Pure prog 213 [.agg T.row,.sl .ro (row.map bK.row),.agg e.row] (fe (nv T row e)):=by
   unfold iD at q
   by_cases d:wZ e<=64
   .rw[ahg d]at q;exact NY ak hT 64 e d he.wide he.dU q
   .rw[ahf d]at q;cases q
  rw[hM]at ab
  refine zA ?_
  simp[go_sem,p]
  refine zL ab cB ⟨zC rfl,zK,vY e,tV⟩ rfl ?_
  simp[go_sem,fe]
  exact wa rfl
 have qc:i<T.ca.length:=om
 have ei:=zQ p (by unfold maxLen at hT;omega)
 obtain⟨v,al⟩:=eX (row[i])
 obtain⟨C,hC⟩:=eX (T.ca[i])
 have qz:i<(row.zip T.ca).length:=by rw[List.length_zip];omega
 rw[Hr _ _ _ qz,List.getElem_zip,al,hC]at hinv
 obtain⟨tl,af⟩: ∃tl,(((row.zip T.ca).drop (i+1)).all λp=>HF p.1 p.2)=tl:=⟨_,rfl⟩
 rw[af]at hinv
 unfold HF at hinv
 have an:=FA v
 simp only at hinv
 generalize ep v=mv at an hinv
 refine zA ?_
 simp[go_sem,p,al]
 refine yL [(1,0)] 4 sm kR kR ?_
 simp[go_sem]
 refine pD an ?_
 refine(A6 mv).elim (λp2=> ?_) (λp2=> ?_)
 rotate_left
 .have hm:mr=false:=by rw[<-hinv,p2];simp
  rw[ahg hm]at hM
  simp[go_sem,p2]
  exact ret zeroV 9 _ hM
 rw[p2,B7]at hinv
 simp[go_sem,p2]
 by_cases k1:v.kind=C.kind
 .have ah:(v.kind !=C.kind)=false:=sU k1
  have ad:(v.kind==C.kind)=true:=sU k1
  rw[ad,ahN,B7]at hinv
  simp[go_sem,ah,qc,hC,ei]
  exact zH (i+1,v0) ⟨by show row.length - (i+1)<row.length - i;omega,⟨p,af.trans hinv⟩,cd 3 (by simp[go_sem,bJ.bS]) rfl (by simp[bT,cQ,cL,bJ.bS]) dC (zD sg rfl)⟩
 have ah:(v.kind !=C.kind)=true:=sU k1
 have ad:(v.kind==C.kind)=false:=sU k1
 rw[ad,Bool.or_false]at hinv
 simp[go_sem,ah,qc,hC]
 by_cases k0:v.kind=0
 .have ai:(v.kind !=0)=false:=sU k0
  have ae:(v.kind==0)=true:=sU k0
  rw[ae,B7]at hinv
  simp[go_sem,ai,ei]
  exact zH (i+1,v0) ⟨by show row.length - (i+1)<row.length - i;omega,⟨p,af.trans hinv⟩,cd 3 (by simp[go_sem,bJ.bS]) rfl (by simp[bT,cQ,cL,bJ.bS]) dC (zD sg rfl)⟩
 have ai:(v.kind !=0)=true:=sU k0
 have ae:(v.kind==0)=false:=sU k0
 rw[ae,Dp]at hinv
 rw[ahg hinv.symm]at hM
 simp[go_sem,ai]
 exact ret zeroV 9 _ hM
theorem Uk {T:bL} {row:List bK} (hv: ∀v∈row,v.ok) {e:bJ} (he:ja e) (h:(gh T row e).2=0):VK (gh T row e).1 (iD T e).1:=by
 unfold gh at h⊢
 by_cases q:(iD T e).2=0
 rotate_left
 .rw[ahg q]at h;exact absurd h q
 have n1: ¬(iD T e).2≠0:=λh=>h q
 rw[ahf n1]at h⊢
 cases hm:DU T.ca row with
 |false=>rw[hm]at h;simp at h
 |true=>
  rw[hm]at h
  simp only[Bool.true_eq_false,ahx]at h⊢
  unfold iD at q⊢
  by_cases d:wZ e<=64
  .rw[ahg d]at q⊢
   exact Kw (TL hm hv) 64 e d he.dU q h
  .rw[ahf d]at q;cases q
theorem wa4 (T:bL) (e:bJ) (x:Ln) (l:List Ln) (acc:bK):j6 T e (x::l) acc=
  if(gh T x.v e).2≠0 then(zeroV,(gh T x.v e).2)
  else if(gh T x.v e).1.kind=0 then j6 T e l acc
  else if(fc (acc.n+(gh T x.v e).1.n)).2≠0 then(zeroV,(fc (acc.n+(gh T x.v e).1.n)).2)
  else j6 T e l ⟨2,(fc (acc.n+(gh T x.v e).1.n)).1,[]⟩:=rfl
theorem wa9 (T:bL) (hT:T.ca.length<=maxLen) (e:bJ) (he:ja e) (l:List Ln) (hl:l.length<=10000) (cN: ∀x∈l,∀v∈x.v,v.ok):bN prog 220 [.agg T.row,.agg e.row,.cJ 0 3 l.length 0 l.length] [.cj (l.map Ln.row) 3] (λr s=>r=fe (j6 T e l zeroV)/\s= [.cj (l.map Ln.row) 3]):=by
 generalize hM:j6 T e l zeroV=M
 have ret: ∀(v:bK) (er:Int) (I:St),(v,er)=M->I.take 1= [.cj (l.map Ln.row) 3]->cw (some (.cy [.agg v.row,.int .i64 er])) 1 (λr s=>r=fe M/\s= [.cj (l.map Ln.row) 3]) I:=by
  rintro v er I rfl h
  exact yX 1 h rfl (by simp[bT,cQ,cL,Ln.row]) (A7 _) (zC rfl) ⟨rfl,rfl⟩
 refine iV 1 func220 ntmps220 results220 λc hc hb=> ?_
 refine zA ?_
 simp[go_sem]
 refine zI (S:=Nat×bK) [3,4,6,7,8,13,14,15] (λu=> [.ptr 1 0,.ptr 2 0,.ptr 3 0,.int .i64 0,.ptr 4 0,.cJ 0 3 l.length 0 l.length,.int .i64 l.length,.int .i64 u.1])
  (λu=> [.cj (l.map Ln.row) 3,.box T.row,.box e.row,.box zeroV.row,.box u.2.row]) (λu=>l.length - u.1)
  (λu=>u.1<=l.length/\gm u.2.n/\u.2.s= []/\j6 T e (l.drop u.1) u.2=M) hc hb (0,zeroV) ⟨A4 _,dC,rfl,hM⟩ ?_ ?_
 .exact cd 5 (by simp[go_sem,zeroV,bJ.bS]) rfl (by simp[bT,cQ,cL,bJ.bS,bL.row,bK.row,Ln.row]) dC (zD sg rfl)
 rintro⟨i,acc⟩ ⟨hi,ha,has,hinv⟩
 simp only at hi ha has hinv
 by_cases q:i<l.length
 rotate_left
 .rw[A9 om]at hinv
  refine zA ?_
  simp[go_sem,q]
  exact ret acc 0 _ hinv rfl
 have ei:=zQ q om
 obtain⟨x,hx⟩:=eX (l[i])
 have aj:x∈l:=hx▸A8 q
 rw[A5 q,hx,wa4]at hinv
 have aa:=KG T hT x.v (cN x aj) e he
 have ad:=Uk (cN x aj) (T:=T) he
 obtain⟨⟨v,er⟩,hv⟩: ∃kv,gh T x.v e=kv:=⟨_,rfl⟩
 rw[hv]at hinv aa ad
 simp only at hinv ad
 refine zA ?_
 simp[go_sem,q,hx]
 refine zL aa cB ⟨zC rfl,zK,vY e,tV⟩ rfl ?_
 simp[go_sem,fe]
 by_cases q2:er=0
 rotate_left
 .have ae:(er !=0)=true:=sU q2
  rw[ahg q2]at hinv
  simp[go_sem,ae]
  exact ret zeroV er _ hinv rfl
 have ae:(er !=0)=false:=sU q2
 rw[ahf (λh=>h q2)]at hinv
 have ak:=ad q2
 simp[go_sem,ae]
 by_cases k0:v.kind=0
 .have af:(v.kind==0)=true:=sU k0
  rw[ahg k0]at hinv
  simp[go_sem,af,ei]
  exact zH (i+1,acc) ⟨by show l.length - (i+1)<l.length - i;omega,⟨q,ha,has,hinv⟩,cd 5 (by simp[go_sem,zeroV,bJ.bS]) rfl (by simp[bT,cQ,cL,bJ.bS,Ln.row]) dC (zD sg rfl)⟩
 have af:(v.kind==0)=false:=sU k0
 rw[ahf k0]at hinv
 have ab:=NT acc.n v.n ha ak.n
 have ah:=NW (acc.n+v.n)
 obtain⟨⟨sn,se⟩,hs⟩: ∃s,fc (acc.n+v.n)=s:=⟨_,rfl⟩
 rw[hs]at hinv ab ah
 simp only at hinv ah
 simp[go_sem,af]
 refine pC ab ?_
 simp[go_sem,wF]
 by_cases q3:se=0
 rotate_left
 .have ai:(se !=0)=true:=sU q3
  rw[ahg q3]at hinv
  simp[go_sem,ai]
  exact ret zeroV se _ hinv rfl
 have ai:(se !=0)=false:=sU q3
 rw[ahf (λh=>h q3)]at hinv
 simp[go_sem,ai,ei]
 exact zH (i+1,⟨2,sn,[]⟩) ⟨by show l.length - (i+1)<l.length - i;omega,⟨q,ah,rfl,hinv⟩,cd 5 (by simp[go_sem,zeroV,bJ.bS,has]) rfl (by simp[bT,cQ,cL,bJ.bS,Ln.row]) dC (zD sg rfl)⟩
def qJ (r:List bK×Int):V:=if r.2=0 then .cy [.agg (Ot.row ⟨0,[r.1]⟩),.int .i64 0]else .cy [.agg (Ot.row ⟨0,[]⟩),.int .i64 r.2]
theorem wp8 (T:bL) (hT:T.ca.length<=maxLen) (st:bW) (af:kO st) (l:List Ln) (hl:l.length<=10000) (cN: ∀x∈l,∀v∈x.v,v.ok):bN prog 158 [.agg T.row,.agg st.row,.cJ 0 3 l.length 0 l.length] [.cj (l.map Ln.row) 3] (λr s=>r=qJ (qG T l st.items [])/\s= [.cj (l.map Ln.row) 3]):=by
 generalize hM:qG T l st.items []=M
 obtain⟨R,hR⟩:=eX st.items
 obtain⟨ah,ae⟩:=af.items
 rw[hR]at ah ae hM
 have bad: ∀(er:Int) (I:St),([],er)=M->er≠0->I.take 1= [.cj (l.map Ln.row) 3]->cw (some (.cy [.agg [.sl .full [],.int .i64 0],.int .i64 er])) 1 (λr s=>r=qJ M/\s= [.cj (l.map Ln.row) 3]) I:=by
  rintro er I rfl h0 h
  refine yX 1 (r:= .cy [.agg (Ot.row ⟨0,[]⟩),.int .i64 er]) h rfl (by simp[bT,cQ,cL,Ln.row]) (A7 _) (yZ ⟨wT ⟨zW,zF rfl,tV⟩,xZ rfl,tV⟩) ⟨?_,rfl⟩
  unfold qJ
  rw[ahf h0]
 have dU: ∀(acc:List bK) (I:St),(acc,0)=M->I.take 1= [.cj (l.map Ln.row) 3]->cw (some (.cy [.agg [.sl .full [[.sl .ro (acc.map bK.row)]],.int .i64 0],.int .i64 0])) 1 (λr s=>r=qJ M/\s= [.cj (l.map Ln.row) 3]) I:=by
  rintro acc I rfl h
  exact yX 1 (r:= .cy [.agg (Ot.row ⟨0,[acc]⟩),.int .i64 0]) h rfl (by simp[bT,cQ,cL,Ln.row]) (A7 _) (yZ ⟨wT ⟨zW,zF rfl,tV⟩,xZ rfl,tV⟩) ⟨rfl,rfl⟩
 refine iV 1 func158 ntmps158 results158 λc hc hb=> ?_
 refine zA ?_
 simp[go_sem,hR]
 refine lE 8 3 dC sg ?_
 refine zI (S:=Nat×List bK) [2,3,4,6,7,8,15,16,17] (λu=> [.cJ 0 3 l.length 0 l.length,.ptr 1 0,.ptr 2 0,.ptr 3 0,.int .i64 0,.sl (.app 4) (u.2.map bK.row),.sl .ro (R.map cM.row),.int .i64 R.length,.int .i64 u.1])
  (λu=> [.cj (l.map Ln.row) 3,.box T.row,.box st.row,.box [.sl .full [],.int .i64 0],.app u.2.length 3]) (λu=>R.length - u.1)
  (λu=>u.1<=R.length/\u.2.length<=u.1/\qG T l (R.drop u.1) u.2=M) hc hb (0,[]) ⟨A4 _,A7 _,hM⟩ ?_ ?_
 .exact cd 5 (by simp[go_sem,hR]) rfl (by simp[bT,cQ,cL,bL.row,bW.row,Ln.row]) dC (zD sg rfl)
 rintro⟨i,acc⟩ ⟨hi,ha,hinv⟩
 simp only at hi ha hinv
 by_cases q:i<R.length
 rotate_left
 .rw[A9 om]at hinv
  refine zA ?_
  simp[go_sem,q]
  exact dU acc _ hinv rfl
 have ei:=zQ q om
 obtain⟨x,hx⟩:=eX (R[i])
 have ai:=(ae x (hx▸A8 q)).2
 rw[A5 q,hx,qG]at hinv
 refine zA ?_
 simp[go_sem,q,hx]
 by_cases k4:x.kind=4
 rotate_left
 .have ab:(x.kind==4)=false:=sU k4
  rw[ahf k4]at hinv
  simp[go_sem,ab]
  refine zJ ⟨om,zY rfl⟩ ?_
  simp[go_sem,ei]
  exact zH (i+1,acc++ [⟨2,l.length,[]⟩]) ⟨by show R.length - (i+1)<R.length - i;omega,⟨q,by show(acc++ [_]).length<=i+1;simp;omega,hinv⟩,aN 5 (by simp[bT,cQ,cL,Ln.row])⟩
 have ab:(x.kind==4)=true:=sU k4
 rw[ahg k4]at hinv
 simp[go_sem,ab]
 have aa:=wa9 T hT x.e ai l hl cN
 obtain⟨⟨v,er⟩,hv⟩: ∃kv,j6 T x.e l zeroV=kv:=⟨_,rfl⟩
 rw[hv]at hinv aa
 simp only at hinv
 refine lV 0 aa cB rfl (by simp[bT,cQ,cL,Ln.row]) ⟨zC rfl,vY x.e,.inl rfl,tV⟩ (by rintro r s ⟨rfl,rfl⟩;exact⟨_,rfl,by simp[bT,cQ,cL,Ln.row]⟩) ?_
 rintro r o ⟨rfl,ho⟩
 cases ho
 simp[go_sem,fe]
 by_cases q2:er=0
 rotate_left
 .have ad:(er !=0)=true:=sU q2
  rw[ahg q2]at hinv
  simp[go_sem,ad]
  exact bad er _ hinv q2 rfl
 have ad:(er !=0)=false:=sU q2
 rw[ahf (λh=>h q2)]at hinv
 simp[go_sem,ad]
 refine zJ ⟨om,zY rfl⟩ ?_
 simp[go_sem,ei]
 exact zH (i+1,acc++ [v]) ⟨by show R.length - (i+1)<R.length - i;omega,⟨q,by show(acc++ [_]).length<=i+1;simp;omega,hinv⟩,aN 5 (by simp[bT,cQ,cL,Ln.row])⟩
theorem xe4 (y:cM):Pure prog 219 [.agg y.row] (.bool (y.kind==3||y.kind==4)):=by
 refine iV 0 func219 ntmps219 results219 λc hc hb=> ?_
 refine zA ?_
 by_cases k:y.kind=3
 .have k':(y.kind==3)=true:=sU k
  simp[go_sem,k']
  exact wR
 .have k':(y.kind==3)=false:=sU k
  simp[go_sem,k']
  exact wR
theorem wj0 (l:List cM) (hl:l.length<=12):Pure prog 269 [.sl .ro (l.map cM.row),.fn 219 []] (.int .i64 (xR (λy=>y.kind==3||y.kind==4) l 0)):=by
 generalize hM:xR (λy:cM=>y.kind==3||y.kind==4) l 0=M
 have ret: ∀(r:Int) (I:St),r=M->cw (some (.int .i64 r)) 0 (λr s=>r= .int .i64 M/\s= []) I:=λr I h=>by subst h;exact wR
 refine iV 0 func269 ntmps269 results269 λc hc hb=> ?_
 refine zA ?_
 simp[go_sem]
 refine zI (S:=Nat) [0,1,6,7,8] (λi=> [.sl .ro (l.map cM.row),.fn 219 [],.sl .ro (l.map cM.row),.int .i64 l.length,.int .i64 (i:Int)]) (λ_=> []) (λi=>l.length - i)
  (λi=>i<=l.length/\xR (λy=>y.kind==3||y.kind==4) (l.drop i) i=M) hc hb 0 ⟨A4 _,hM⟩ ?_ ?_
 .exact aN 0 sm
 rintro i ⟨hi,hinv⟩
 by_cases q:i<l.length
 rotate_left
 .rw[A9 om]at hinv
  refine zA ?_
  simp[go_sem,q]
  exact ret _ _ hinv
 have ei:=zQ q om
 obtain⟨y,hy⟩:=eX (l[i])
 rw[A5 q,hy,xR]at hinv
 have aa:=xe4 y
 generalize (y.kind==3||y.kind==4)=b at aa hinv
 refine zA ?_
 simp[go_sem,q,hy]
 refine pC aa ?_
 refine(A6 b).elim (λp=> ?_) (λp=> ?_)
 .rw[ahg p]at hinv
  simp[go_sem,p]
  exact ret _ _ hinv
 .rw[ahf (by rw[p];decide)]at hinv
  simp[go_sem,p,ei]
  exact zH (i+1) ⟨om,⟨om,hinv⟩,aN 0 sm⟩
theorem wi3 (l:List cM) (hl:l.length<=12):Pure prog 218 [.sl .ro (l.map cM.row),.fn 219 []] (.bool (zu l)):=by
 have h:=wj0 l hl
 have hg:=DQ (λy:cM=>y.kind==3||y.kind==4) l 0
 unfold zu
 rw[<-hg]
 generalize xR (λy:cM=>y.kind==3||y.kind==4) l 0=n at h⊢
 refine iW 0 func218 ntmps218 results218 λc hc hb=>zM ?_
 simp[go_sem]
 refine pC h ?_
 simp[go_sem]
 exact wR
theorem wc7 (st:bW) (aa:kO st):Pure prog 157 [.agg st.row] (.bool (zu st.items)):=by
 have h:=wi3 st.items aa.items.1
 generalize zu st.items=b at h⊢
 refine iW 0 func157 ntmps157 results157 λc hc hb=>zM ?_
 simp[go_sem]
 refine pC h ?_
 simp[go_sem]
 exact wR
theorem Ul: ∀{W:List (Pl×U)},(∀e∈W,e.1≠p)->W.filter (λe=> !decide (e.1=p))=W:=fun{W} h=>
 D4.2 λe he=>by simp[h e he]
theorem Um {U:Type} {p:Pl} {v:U}: ∀{W:List (Pl×U)} {i:Nat},(W.map (·.1)).Nodup->W[i]? =some (p,v)->W.eraseIdx i=W.filter (λe=> !decide (e.1=p))
 | [],i,_,h=>by simp at h
 |e::W,0,hn,h=>by
  simp only[List.getElem?_cons_zero,ahk]at h
  subst h
  rw[Ai,C2]at hn
  rw[List.eraseIdx_cons_zero,D8,ahf sm]
  exact(Ul λe he q=>hn.1 (Ac.2 ⟨e,he,q⟩)).symm
 |e::W,i+1,hn,h=>by
  rw[Du]at h
  rw[Ai,C2]at hn
  have aa:e.1≠p:=λq=>hn.1 (Ac.2 ⟨(p,v),Bk h,q.symm⟩)
  rw[List.eraseIdx_cons_succ,D8,ahg (by simp[aa]),Um hn.2 h]
theorem wo5 (hn:(b.W.map (·.1)).Nodup) (p:Pl):(b.del p).W=b.W.filter (λe=> !decide (e.1=p)):=by
 unfold Mp.del
 cases h:b.at p with
 |none=>exact(Ul (Kx h)).symm
 |some q=>exact Um hn (wi (i:=q.1) (v:=q.2) h)
theorem Un {U:Type} {p:Pl} {u v:U}: ∀{W:List (Pl×U)} {i:Nat},(W.map (·.1)).Nodup->W[i]? =some (p,u)->W.set i (p,v)=W.map (λe=>if e.1=p then(p,v)else e)
 | [],i,_,h=>by simp at h
 |e::W,0,hn,h=>by
  simp only[List.getElem?_cons_zero,ahk]at h
  subst h
  rw[Ai,C2]at hn
  rw[Ch,Ai,ahg rfl]
  congr 1
  refine(List.map_id _).symm.trans (B8 λe he=> ?_)
  rw[ahf λq=>hn.1 (Ac.2 ⟨e,he,q⟩)];rfl
 |e::W,i+1,hn,h=>by
  rw[Du]at h
  rw[Ai,C2]at hn
  have aa:e.1≠p:=λq=>hn.1 (Ac.2 ⟨(p,u),Bk h,q.symm⟩)
  rw[Bz,Ai,ahf aa,Un hn.2 h]
theorem cI.keys {l:List Ln} (h:cI b l):(b.W.map (·.1)).Nodup:=by
 have h1:=h.perm.map (·.1)
 rw[B9]at h1
 exact h1.nodup_iff.2 h.j7.nodup
theorem cI.del {l:List Ln} (h:cI b l) (p:Pl):cI (b.del p) (l.filter λy=> !decide (y.at=p)):=by
 refine⟨Mp.DV h.ok _, ?_, ?_,λy hy=>h.rows y (Bq.1 hy).1⟩
 .exact ahB ((Bw).map _) h.j7
 .rw[wo5 h.keys]
  have h1:=h.perm.filter (λe=> !decide (e.1=p))
  rw[List.filter_map]at h1
  exact h1
theorem cI.HO {l:List Ln} (h:cI b l) (p:Pl) (row:List bK) (hp:il l p) (aa:fB ⟨p.1,p.2,row⟩):cI (b.put p (xI row)) (im l p row):=by
 have ab:(im l p row).map Ln.at=l.map Ln.at:=by
  unfold im
  rw[B9]
  refine B8 λy _=> ?_
  by_cases q:y.at=p
  .simp only[Function.comp,ahg q];rfl
  .simp only[Function.comp,ahf q]
 refine⟨Mp.iS h.ok _ _, ?_, ?_,λy hy=> ?_⟩
 .rw[ab];exact h.j7
 .have e:(b.put p (xI row)).W=b.W.map (λe=>if e.1=p then(p,xI row)else e):=by
   unfold Mp.put
   cases r:b.at p with
   |none=>rw[h.gG.1 r]at hp;cases hp
   |some q=>exact Un h.keys (wi (i:=q.1) (v:=q.2) r)
  rw[e]
  have h1:=h.perm.map (λe=>if e.1=p then(p,xI row)else e)
  rw[B9]at h1
  refine h1.trans (ahE ?_)
  unfold im
  rw[B9]
  refine B8 λy _=> ?_
  by_cases q:y.at=p
  .simp only[Function.comp,ahg q]
   show _=((y.r,y.k),xI row)
   rw[<-q];rfl
  .simp only[Function.comp,ahf q]
 .unfold im at hy
  obtain⟨z,hz,rfl⟩:=Ac.1 hy
  by_cases q:z.at=p
  .rw[ahg q]
   subst q
   exact aa
  .rw[ahf q];exact h.rows z hz
theorem VK.okV {v:bK} {k:Int} (h:VK v k):v.ok:=by
 have hm:=h.may
 have hn:=h.n
 rcases N4 hm with ⟨h1,_,h3⟩|⟨h1,_,h3⟩|⟨h1,h3⟩|⟨h1,_,h3⟩
 all_goals
  refine⟨by rw[h1];decide,hn, ?_⟩
  first|(rw[h3];decide)|(unfold maxLen;omega)
theorem KH {T:bL} {nT:List bK} (ho: ∀v∈nT,v.ok): ∀{cD:List cm} {row:List bK},(∀x∈cD,ja x.e)->(∀v∈row,v.ok)->(gp T nT cD row).2=0->(gp T nT cD row).1.length=row.length/\ ∀v∈(gp T nT cD row).1,v.ok
 | [],row,_,hr,_=>(by trivial)
 |x::l,row,hs,hr,h=>by
  rw[gp]at h⊢
  by_cases q:(gh T nT x.e).2=0
  .rw[ahf om]at h⊢
   have hv:=(Uk ho (by grind) q).okV
   have h2:=KH ho (cD:=l) (row:=row.set (cR T x.name).toNat (gh T nT x.e).1) (by grind) (by grind) h
   grind
  grind
theorem Uo {T:bL} {st:bW}: ∀{l acc:List Ln},∀x∈(tE T st acc l).1,x∈acc\/x∈l
 | [],_,_,h=> .inl h
 |y::l,acc,x,h=>by
  rw[tE]at h
  by_cases q:(gh T y.v st.cE).2=0
  .rw[ahf om]at h
   rcases Uo (l:=l) x h with h|h
   all_goals grind
  grind
theorem KI {t:Int} {T:bL} {l:List Ln}: ∀x∈(fy t T st l).1,x∈l/\(lg t st x)=true:=λx h=>by
 unfold fy at h
 have hf:x∈l.filter (lg t st):=by
  by_cases q:st.dM=true
  .rw[ahg q]at h
   rcases Uo x h with h|h
   all_goals grind
  grind
 grind
theorem xY0 (l:List Ln) (p:Pl) (row:List bK):(im l p row).map Ln.at=l.map Ln.at:=by
 unfold im
 rw[B9]
 refine B8 λy _=> ?_
 by_cases q:y.at=p
 .simp only[Function.comp,ahg q];rfl
 grind
theorem Up (l:List Ln) (p q:Pl) (row:List bK):il (im l p row) q=il l q:=by
 rw[Db,fV,fV,xY0]
def kJ (p q:Pl):Int:=th [gk p.1 q.1,iR p.2 q.2]
theorem Oi (p q:Pl):decide (kJ p q<0)=xV p q:=by
 obtain⟨a,s⟩:=p
 obtain⟨b,t⟩:=q
 simp only[kJ,th,gk,iR,xV]
 by_cases h1:a<b
 .simp[h1]
 .by_cases h2:a>b
  .have h3: ¬a=b:=om
   simp[h1,h2,h3]
  .have h3:a=b:=om
   subst h3
   by_cases h4:Op.bytesLess s t=true
   .simp[h4]
   .have aa:Op.bytesLess s t=false:=sU h4
    by_cases h5:Op.bytesLess t s=true
    .simp[aa,h5]
    .simp[aa,h5]
theorem Uq:Go.Sort.SWO λa b=>decide (kJ a b<0):=by
 have e:(λa b=>decide (kJ a b<0))=xV:=funext λa=>funext λb=>Oi a b
 rw[e]
 refine⟨KC,λx y z h g=>HJ h g,λx y z h g=> ?_⟩
 cases q:xV x z with
 |false=>rfl
 |true=>
  rcases HK x y with r|r|r
  .rw[r]at h;cases h
  .subst r;rw[q]at g;cases g
  .have:=HJ r q;rw[this]at g;cases g
theorem xY8 {X:Type} {kx:X->Pl} {l:List X} (h:l.Pairwise λa b=> ¬kJ (kx b) (kx a)<0) (hn:(l.map kx).Nodup):fU (l.map kx):=by
 unfold fU
 rw[Cf]
 rw[List.Nodup,Cf]at hn
 refine(h.and hn).imp fun{a b} ⟨h1,h2⟩=> ?_
 rcases HK (kx a) (kx b)with r|r|r
 .exact r
 .exact absurd r h2
 .rw[<-Oi]at r
  exact absurd (ahp r) h1
theorem Ur (p q:Pl):Pure prog 110 [gO p,gO q] (.int .i64 (kJ p q)):=by
 have h:=HC [gk p.1 q.1,iR p.2 q.2] (by simp[maxLen])
 have h1:=NN p.1 q.1
 have h2:=To p.2 q.2
 unfold kJ
 generalize th [gk p.1 q.1,iR p.2 q.2]=M at*
 refine iW 0 func110 ntmps110 results110 λc hc hb=>zM ?_
 simp[go_sem,gO]
 refine yL [(4,0),(9,0),(11,0)] 2 rfl kR kR ?_
 simp[go_sem]
 refine pD h1 ?_
 simp[go_sem]
 refine pD h2 ?_
 simp[go_sem]
 refine pD h ?_
 simp[go_sem]
 exact wR
theorem xK5 (p q:Pl):Pure prog 155 [.agg (.int .i64 p.1:: .str p.2::List.replicate (3 - 2) .u),.agg (.int .i64 q.1:: .str q.2::List.replicate (3 - 2) .u)] (.int .i64 (kJ p q)):=by
 have h:=Ur p q
 rw[gO,gO]at h
 show Pure prog 155 [.agg [.int .i64 p.1,.str p.2,.u],.agg [.int .i64 q.1,.str q.2,.u]] (.int .i64 (kJ p q))
 refine iW 0 func155 ntmps155 results155 λc hc hb=>zM ?_
 simp[go_sem]
 refine pC h ?_
 simp[go_sem]
 exact wR
def jL (seen:ahQ) (W:List (Pl×U)) (bs:ahQ):List ((Pl×U)×Nat):=(W.zip bs).filter λp=> !seen.contains p.2
theorem Us {U:Type} {g:U->V} {seen:ahQ}: ∀{W:List (Pl×U)} {bs:ahQ},xv seen (gn g W) bs=(jL seen W bs).map λp=>(gO p.1.1,g p.1.2,p.2)
 | [],bs=>by cases bs<;>rfl
 |e::W,[]=>rfl
 |e::W,b::bs=>by
  rw[gn,xv,Us]
  unfold jL
  rw[Dw,D8]
  cases h:seen.contains b
  .simp only[Cw,ahx,Bool.not_false,aho,Ai]
  .simp only[aho,Bool.not_true,Cw,ahx]
theorem KJ {U:Type} {g:U->V}: ∀{W:List (Pl×U)} {bs:ahQ} {p:(Pl×U)×Nat},bs.Nodup->p∈W.zip bs->Ek p.2 (gn g W) bs=some (gO p.1.1,g p.1.2)
 | [],_,_,_,h=>by simp at h
 |e::W,[],_,_,h=>by simp at h
 |e::W,b::bs,p,hn,h=>by
  rw[C2]at hn
  rw[gn,Ek]
  rw[Dw]at h
  rcases Af.1 h with rfl|h
  .rw[ahg rfl]
  .have:b≠p.2:=λq=>hn.1 (q▸(List.of_mem_zip h).2)
   rw[ahf this]
   exact KJ hn.2 h
theorem Ut {U:Type}: ∀{W:List U} {bs:ahQ},bs.Nodup->((W.zip bs).map (·.2)).Nodup
 | [],_,_=>by simp
 |e::W,[],_=>by simp
 |e::W,b::bs,h=>by
  rw[C2]at h
  rw[Dw,Ai,C2]
  refine⟨λq=> ?_,Ut h.2⟩
  obtain⟨p,hp,rfl⟩:=Ac.1 q
  exact h.1 (List.of_mem_zip hp).2
theorem Uu {U:Type} {p:U×Nat}: ∀{L:List (U×Nat)},(L.map (·.2)).Nodup->p∈L->L.Perm (p::L.filter λq=> !decide (q.2=p.2))
 | [],_,h=>by cases h
 |x::L,hn,h=>by
  rw[Ai,C2]at hn
  rcases Af.1 h with rfl|h
  .have:(p::L).filter (λq=> !decide (q.2=p.2))=L:=by
    rw[D8,ahf sm]
    exact D4.2 λq hq=>by
     have:q.2≠p.2:=λe=>hn.1 (Ac.2 ⟨q,hq,e⟩)
     simp[this]
   rw[this]
  .have:x.2≠p.2:=λe=>hn.1 (Ac.2 ⟨p,h,e.symm⟩)
   rw[D8,ahg (by simp[this])]
   exact((Uu hn.2 h).cons x).trans (List.Perm.swap ..)
theorem KK (hn:bs.Nodup) {p:(Pl×U)×Nat} (hp:p∈jL seen W bs):(jL seen W bs).Perm (p::jL (seen++ [p.2]) W bs):=by
 have h1:((jL seen W bs).map (·.2)).Nodup:=ahr ((Bw).map _) (Ut hn)
 refine(Uu h1 hp).trans (ahE ?_)
 congr 1
 unfold jL
 rw[ahG]
 refine List.filter_congr λq _=> ?_
 by_cases e:q.2=p.2
 .simp[e]
 .simp[e]
theorem KL {p:(Pl×U)×Nat} (hp:p∈jL seen W bs):p∈W.zip bs:=(Bq.1 hp).1
theorem xW3 (h:bs.length=W.length):(jL [] W bs).map (·.1)=W:=by
 unfold jL
 rw[D4.2 λq _=>sm,List.map_fst_zip om]
def gP (seen:ahQ) (W:List (Pl×U)) (bs:ahQ) (D:List (Pl×U)):Prop:=(D++(jL seen W bs).map (·.1)).Perm W
theorem gP.start (h:bs.length=W.length):gP [] W bs []:=by
 unfold gP
 rw[xW3 h];exact List.Perm.refl _
theorem gP.next {D:List (Pl×U)} (hn:bs.Nodup) (h:gP seen W bs D) {p:(Pl×U)×Nat} (hp:p∈jL seen W bs):gP (seen++ [p.2]) W bs (D++ [p.1]):=by
 unfold gP at h⊢
 refine List.Perm.trans ?_ h
 rw[Ce]
 have h1:=(KK hn hp).map λx:(Pl×U)×Nat=>x.1
 rw[Ai]at h1
 exact List.Perm.append_left _ h1.symm
theorem gP.done {D:List (Pl×U)} (h:gP seen W bs D) (h0:jL seen W bs= []):D.Perm W:=by
 unfold gP at h
 rw[h0]at h
 simpa using h
theorem Uv {U:Type} {p q:U->Bool}: ∀{l:List U},(∀x∈l,p x=true->q x=false)->(l.filter p++l.filter q).Perm (l.filter λx=>p x||q x)
 | [],_=>List.Perm.refl _
 |x::l,h=>by
  have ih:=Uv (l:=l) λy hy=>h y (B5 _ hy)
  have hx:=h x (Av ..)
  simp only[D8]
  cases hp:p x with
  |true=>
   simp only[hx hp,Di,aho,Cw,ahx,Bm]
   exact ih.cons x
  |false=>
   cases hq:q x with
   |true=>
    simp only[C6,aho,Cw,ahx]
    exact Df.trans (ih.cons x)
   |false=>
    simp only[C6,Cw,ahx]
    exact ih
theorem Uw {l:List Ln} {c:Ln->Bool} {rg:Int->Int}: ∀{G:ahS},(G.map rg).Nodup->(G.flatMap λg=>l.filter λx=>(rg g==x.r)&&c x).Perm (l.filter λx=>(G.any λg=>rg g==x.r)&&c x)
 | [],_=>by simp
 |g::G,hn=>by
  rw[Ai,C2]at hn
  rw[By]
  refine(List.Perm.append_left _ (Uw (l:=l) (c:=c) hn.2)).trans ((Uv λx _ hp=> ?_).trans (ahE (List.filter_congr λx _=> ?_)))
  .simp only[Ab,ahm]at hp
   have:(G.any λg=>rg g==x.r)=false:=by
    cases q:G.any λg=>rg g==x.r with
    |false=>rfl
    |true=>
     obtain⟨g',h1,h2⟩:=Cd.1 q
     exact absurd (Ac.2 ⟨g',h1,(beq_iff_eq.1 h2).trans hp.1.symm⟩) hn.1
   rw[this,Dp]
  .rw[List.any_cons,Bool.and_or_distrib_right]
theorem xw9 {l m:List Ln} (hr:fU (l.map Ln.at)) (hp:m.Perm l) (hs:m.Pairwise λa b=>xV b.at a.at=false):m=l:=by
 have aa:(m.map Ln.at).Nodup:=(hp.map Ln.at).nodup_iff.2 hr.nodup
 have h1:l.Pairwise λa b=>xV a.at b.at=true:=Cf.1 hr
 have h2:m.Pairwise λa b=>xV a.at b.at=true:=by
  refine(hs.and (Cf.1 aa)).imp fun{a b} h=> ?_
  rcases HK a.at b.at with q|q|q
  .exact q
  .exact absurd q h.2
  .rw[h.1]at q;cases q
 exact hp.eq_of_pairwise (λa b _ _ h g=>by rw[Oe h]at g;cases g) h2 h1
theorem Oj (c:UInt8):UInt8.ofNat c.toNat=c:=sm
theorem Ux: ∀(l:ahP) (i v u n:Nat),gV l i v=(u,n,0)-> ∃w k,u=v+w*128^i/\n=i+k/\l.take k=fj w/\k<=l.length/\(0<i->0<w)
 | [],i,v,u,n,h=>by grind[gV]
 |c::rest,i,v,u,n,h=>by
  rw[gV]at h
  split at h
  .grind
  .split at h
   .rename_i h2
    split at h
    .grind
    .rename_i h3
     simp only[ahq]at h
     obtain⟨h4,h5,_⟩:=h
     refine⟨c.toNat,1, ?_,h5.symm, ?_,sm,λhi=> ?_⟩
     .grind
     .rw[Hk h2,Oj];rfl
     omega
   .rename_i h2
    obtain⟨w,k,h4,h5,h6,h7,h8⟩:=Ux rest (i+1) _ u n h
    have hw:=om
    have hc:=c.toNat_lt
    have e1:(c.toNat%128+128*w)%128=c.toNat%128:=om
    have e2:(c.toNat%128+128*w)/128=w:=om
    refine⟨c.toNat%128+128*w,k+1, ?_,om, ?_,by grind,om⟩
    .grind
    .rw[J7 om,e1,e2,Cr,h6]
     grind[Oj]
theorem wd2 (u:Nat):ji (kC u)=u:=by
 grind[ji,kC]
theorem Ol {l:ahP} {u n:Nat} (h:gV l 0 0=(u,n,0)):l.take n=fj u/\n<=l.length:=by
 grind[Ux]
theorem yU1: ∀{b:ahP},(la b).e=0->b.take (la b).n=kj (la b).v/\(la b).n<=b.length/\0<(la b).n
 | [],h=>by trivial
 |c::rest,h=>by
  have hc:=Oj c
  rw[la]at h⊢
  revert h
  unfold oG
  split
  .grind[kj,ep,v0]
  .split
   .rename_i _ h1
    rw[h1]at hc
    unfold uD
    cases rest with
    |nil=>simp
    |cons d rest=>
     simp only[Ak,List.getD_cons_succ,List.getD_cons_zero]
     rw[ahf om]
     split
     .simp
     .intro _
      rename_i hd
      refine⟨?_,sm,sm⟩
      have hm:ep ⟨1,(d.toNat:Int),[]⟩=true:=by
       grind[ep]
      simp_all[kj]
   .split
    .rename_i _ _ h2
     rw[h2]at hc
     obtain⟨⟨u,n,e⟩,hg⟩: ∃g,gV rest 0 0=g:=⟨_,rfl⟩
     rw[hg]
     simp only
     split
     all_goals simp_all[Ol,kj,ep,Dz,wd2]
    .split
     .rename_i _ _ _ h3
      rw[h3]at hc
      obtain⟨⟨u,n,e⟩,hg⟩: ∃g,gV rest 0 0=g:=⟨_,rfl⟩
      unfold sY wN
      rw[hg]
      by_cases he:e=0
      rotate_left
      .grind
      subst he
      by_cases h5:1048576<u
      .grind
      by_cases h6:rest.length - n<u
      .grind
      obtain⟨h7,h8⟩:=Ol hg
      have aa:((rest.take (n+u)).drop n).length=u:=by
       grind
      simp only[h5,h6,ahx,ne_eq,ahy,aa]
      by_cases hl:64<u
      .grind
      rw[ahf hl]
      intro _
      refine⟨?_,by grind,by grind⟩
      have hm:ep ⟨3,0,(rest.take (n+u)).drop n⟩=true:=by
       grind[ep]
      unfold kj
      rw[ahg hm]
      simp only
      rw[ahf dC,ahf dC,ahg True.intro,aa,<-h7]
      rw[Dz 1 (n+u),Cr]
      show c::_=UInt8.ofNat 3::_
      rw[hc]
      congr 1
      grind[B6]
     simp
theorem Uy: ∀(n:Nat) (b:ahP) (l:List bK),ik n b=some l->l.flatMap kj=b/\l.length=n
 |0,b,l,h=>by
  rw[ik]at h
  grind
 |n+1,b,l,h=>by
  rw[ik]at h
  split at h
  .rename_i he
   rw[Aw]at h
   obtain⟨l',h1,rfl⟩:=h
   obtain⟨h2,h3⟩:=Uy n _ l' h1
   obtain⟨h4,_,_⟩:=yU1 he
   refine⟨?_,by simp[h3]⟩
   rw[By,h2,<-h4,B6]
  grind
theorem xc1 {nc:Nat} {data:ahP} (h:(R.jB nc data).2=0):xI (R.jB nc data).1=data:=by
 revert h
 unfold R.jB
 split
 .rename_i h0
  intro h
  obtain⟨⟨u,n,e⟩,hg⟩: ∃g,gV data 0 0=g:=⟨_,rfl⟩
  rw[hg]at h h0⊢
  obtain⟨h1,h2⟩:=h0
  simp only at h1 h2 h⊢
  rw[h1]at hg
  subst h2
  obtain⟨h3,_⟩:=Ol hg
  cases hr:ik u (data.drop n)with
  |none=>grind[sZ]
  |some l=>
   obtain⟨h5,h6⟩:=Uy _ _ _ hr
   show xI l=data
   unfold xI sX
   grind[B6]
 omega
theorem fB.read {x:Ln} (h:fB x):eF bO (fT x.r).1 (xI x.v)=(x.v,0):=by
 obtain⟨tn,T,e,hT,hm⟩:=h.jn
 obtain⟨aa,ab⟩:=A3.1 hT
 have hL:=HM ((by decide: ∀T∈bO,T.ca.length<=20) T (by grind)) h.ok hm
 simp_all[eF,xM2]
def uO (t:Int) (e:Pl×ahP):Ln:=⟨e.1.1,e.1.2,(eF bO t e.2).1⟩
def pz (dv:Int) (lo hi:ahP) (e:Pl×ahP):Bool:=(e.1.1==dv)&&(!Op.bytesLess e.1.2 lo&&Op.bytesLess e.1.2 hi)
def HP (dv:Int) (lo hi:ahP) (x:Ln):Bool:=(dv==x.r)&&(!Op.bytesLess x.k lo&&Op.bytesLess x.k hi)
theorem yR9 {l:List Ln} (h:cI b l) {D:List (Pl×ahP)} (hD:D.Perm b.W) {t dv:Int} (hr:(fT dv).1=t) (lo hi:ahP):
  ((D.filter (pz dv lo hi)).map (uO t)).Perm (l.filter (HP dv lo hi)):=by
 have h1:=((hD.trans h.perm).filter (pz dv lo hi)).map (uO t)
 refine h1.trans (ahE ?_)
 rw[List.filter_map,B9]
 have e1:l.filter (pz dv lo hi∘λx=>(x.at,xI x.v))=l.filter (HP dv lo hi):=List.filter_congr λx _=>by
  show((x.r==dv)&&_)=((dv==x.r)&&_)
  rw[Bool.beq_comm]
  rfl
 rw[e1]
 refine(B8 λx hx=> ?_).trans (List.map_id _)
 obtain⟨ad,aa⟩:=Bq.1 hx
 unfold HP at aa
 rw[Ab,ahm]at aa
 have ab:=(h.rows x ad).read
 rw[<-aa.1,hr]at ab
 show uO t (x.at,xI x.v)=x
 unfold uO
 rw[ab]
 rfl
theorem xb5 (j:Nat) (hj:j<3) (st:bW):((xX (j:Int) st).map λg=>(xA j g).1).Nodup:=by
 match j,hj with
 |0,_=>
  have e:xX ((0:Nat):Int) st=iQ (nK st) [0,1]:=rfl
  rw[e,N9]
  exact ahr ((Bw).map _) (by decide:([0,1].map λg=>(xA ((0:Nat):Int) g).1).Nodup)
 |1,_=>exact(by decide:([-1].map λg=>(xA ((1:Nat):Int) g).1).Nodup)
 |2,_=>exact(by decide:([1].map λg=>(xA ((2:Nat):Int) g).1).Nodup)
theorem Uz (j:Nat) (hj:j<3) {g:Int} (hg:g∈xX (j:Int) st):(g= -1\/g=0\/g=1)/\(xA j g).2=0/\fT (xA j g).1=((j:Int),g,0):=by
 match j,hj with
 |0,_=>
  have e:xX ((0:Nat):Int) st=iQ (nK st) [0,1]:=rfl
  rw[e,N9]at hg
  have:=(Bq.1 hg).1
  simp at this
  rcases this with rfl|rfl
  all_goals decide
 |1,_=>
  have e:xX ((1:Nat):Int) st= [-1]:=rfl
  rw[e]at hg
  simp at hg
  subst hg
  decide
 |2,_=>
  have e:xX ((2:Nat):Int) st= [1]:=rfl
  rw[e]at hg
  simp at hg
  subst hg
  decide
theorem yE1 (j:Nat) (hj:j<3) (st:bW) (l:List Ln):((xX (j:Int) st).flatMap λg=>l.filter (HP (xA j g).1 (pv bO j st).1 (pv bO j st).2)).Perm (l.filter (lg j st)):=
 Uw (l:=l) (c:=λx=> !Op.bytesLess x.k (pv bO j st).1&&Op.bytesLess x.k (pv bO j st).2) (rg:=λg=>(xA j g).1) (xb5 j hj st)
theorem yZ7 {j:Nat} {l m:List Ln} (hr:fU (l.map Ln.at)) (hp:m.Perm (l.filter (lg j st))) (hs:m.Pairwise λa b=> ¬kJ b.at a.at<0):m=l.filter (lg j st):=by
 refine xw9 (ahB ((Bw).map _) hr) hp (hs.imp fun{a b} h=> ?_)
 rw[<-Oi]
 grind
def nV (l:List Wr):Prop:=l.Pairwise λa b=>xV a.p b.p=true
theorem Om (l:List Wr) (x:Wr):(kI l x).Perm (x::l):=by
 unfold kI
 refine Df.trans (List.Perm.cons _ (ahE ?_))
 simp
theorem UA {x:Wr}: ∀{l:List Wr},nV l->(∀y∈l,y.p≠x.p)-> ∀y∈l.dropWhile (λy=>xV y.p x.p),xV x.p y.p=true
 | [],_,_,y,hy=>by simp_all
 |z::l,hr,hn,y,hy=>by
  rw[nV,Cb]at hr
  rw[List.dropWhile_cons]at hy
  by_cases q:xV z.p x.p=true
  .rw[ahg q]at hy
   exact UA hr.2 (by grind) y hy
  .rw[ahf q]at hy
   have hz:xV x.p z.p:=by
    grind[HK]
   rcases Af.1 hy with rfl|hy
   all_goals grind[HJ]
theorem xr6 {l:List Wr} {x:Wr} (h:nV l) (hn: ∀y∈l,y.p≠x.p):nV (kI l x):=by
 have hd:=UA h hn
 have ht: ∀y∈l.takeWhile (λy=>xV y.p x.p),xV y.p x.p:=Og
 unfold nV at h
 rw[<-Cn (p:=λy:Wr=>xV y.p x.p) (l:=l),Bl]at h
 unfold kI nV
 rw[Bl,Cb]
 grind
theorem On {f:Ln->Wr} (hf: ∀x,(f x).p=x.at): ∀{m:List Ln} {l:List Wr},nV l->(l.map (·.p)++m.map Ln.at).Nodup->nV (m.foldl (λl x=>kI l (f x)) l)/\(m.foldl (λl x=>kI l (f x)) l).Perm (l++m.map f)
 | [],l,h,_=>(by simp_all)
 |x::m,l,h,hn=>by
  have hx: ∀y∈l,y.p≠(f x).p:=(by grind)
  have h2:((kI l (f x)).map (·.p)++m.map Ln.at).Nodup:=by
   have hp:((kI l (f x)).map (·.p)++m.map Ln.at).Perm (l.map (·.p)++(x::m).map Ln.at):=by
    refine(((Om l (f x)).map (·.p)).append_right _).trans ?_
    rw[Ai,Ai,hf]
    exact Df.symm
   exact hp.nodup_iff.2 hn
  obtain⟨h3,h4⟩:=On hf (m:=m) (xr6 h hx) h2
  refine⟨h3,h4.trans ?_⟩
  refine((Om l (f x)).append_right _).trans ?_
  rw[Ai]
  exact Df.symm
theorem UB {l m:List Wr} (h:nV l) (g:nV m) (e: ∀x,x∈l↔x∈m):l=m:=by
 have nd: ∀{l:List Wr},nV l->l.Nodup:=λh=>h.imp (by grind[KC])
 exact((List.perm_ext_iff_of_nodup (nd h) (nd g)).2 om).eq_of_pairwise (by grind[Oe]) h g
def isW (px now:List Ln) (w:Wr):Prop:=
 (w.drop=true/\w.data= []/\(∃x∈px,x.at=w.p)/\il now w.p=false)\/(w.drop=false/\ ∃x∈now,x.at=w.p/\xI x.v=w.data/\ ∀y∈px,y.at=x.at->xI y.v≠xI x.v)
theorem Oo {aa now:List Ln} (hw:fU (aa.map Ln.at)) (hn:fU (now.map Ln.at)):nV (iF aa now)/\ ∀w,w∈iF aa now↔isW aa now w:=by
 obtain⟨h1,h2⟩:=On (f:=λx=>⟨x.at,true,[]⟩) sm (m:=aa.filter λx=> !il now x.at) (l:= []) List.Pairwise.nil (by
  simp only[Bh,Bu]
  exact ahr ((Bw).map _) hw.nodup)
 rw[Bu]at h2
 obtain⟨h3,h4⟩:=On (f:=λx=>⟨x.at,false,xI x.v⟩) sm (m:=now.filter λx=> !(aa.any λy=>decide (y.at=x.at)&&decide (xI y.v=xI x.v))) h1 (by
  have hp:=(h2.map (·.p)).append_right ((now.filter λx=> !(aa.any λy=>decide (y.at=x.at)&&decide (xI y.v=xI x.v))).map Ln.at)
  refine hp.nodup_iff.2 ?_
  rw[B9,Cp]
  refine⟨ahr ((Bw).map _) hw.nodup,ahr ((Bw).map _) hn.nodup,λa ha b hb e=> ?_⟩
  obtain⟨x,hx,rfl⟩:=Ac.1 ha
  obtain⟨y,hy,rfl⟩:=Ac.1 hb
  grind[il])
 refine⟨h3,λw=> ?_⟩
 have h5:=(h4.trans (h2.append_right _)).mem_iff (a:=w)
 rw[Al,Ac,Ac]at h5
 refine h5.trans (or_congr ⟨?_, ?_⟩ ⟨?_, ?_⟩)
 .grind
 .rintro⟨e1,e2,⟨x,hx,e3⟩,e4⟩
  refine⟨x,(by grind), ?_⟩
  obtain⟨p,d,b⟩:=w
  grind
 .grind
 .rintro⟨e1,x,hx,e2,e3,e4⟩
  refine⟨x,Bq.2 ⟨hx, ?_⟩, ?_⟩
  .grind
  .obtain⟨p,d,b⟩:=w
   grind
def gQ (out:List (Int×List Wr)) (w:Wr):List (Int×List Wr):=
 match out.getLast? with
 |some q=>if q.1=w.p.1 then out.dropLast++ [(q.1,q.2++ [w])]else out++ [(w.p.1,[w])]
 |none=> [(w.p.1,[w])]
def ml (l:List Wr):List (Int×List Wr):=l.foldl gQ []
theorem UC {r:Int}: ∀{B C:List Wr} {out:List (Int×List Wr)},(∀w∈B,w.p.1=r)->B.foldl gQ (out++ [(r,C)])=out++ [(r,C++B)]
 | [],C,out,_=>by simp
 |w::B,C,out,h=>by
  have hw:=h w (Av ..)
  have e:gQ (out++ [(r,C)]) w=out++ [(r,C++ [w])]:=by
   unfold gQ
   rw[List.getLast?_append]
   simp[hw]
  rw[Bt,e,UC λy hy=>h y (B5 _ hy)]
  simp
theorem KM {B:List Wr} {out:List (Int×List Wr)} (h: ∀w∈B,w.p.1=r) (ho: ∀q∈out,q.1≠r):B.foldl gQ out=out++(if B= []then []else [(r,B)]):=by
 cases B with
 |nil=>simp
 |cons w B=>
  have hw:=h w (Av ..)
  have e:gQ out w=out++ [(r,[w])]:=by
   unfold gQ
   cases q:out.getLast? with
   |none=>simp_all
   |some p=>
    grind
  grind[UC]
theorem yS2 {l:List Wr} (h:nV l) (hr: ∀w∈l,w.p.1=0\/w.p.1=1\/w.p.1=2\/w.p.1=3):l=l.filter (λw=>w.p.1==0)++(l.filter (λw=>w.p.1==1)++(l.filter (λw=>w.p.1==2)++l.filter (λw=>w.p.1==3))):=by
 have hl: ∀{a b:Wr},a.p.1<b.p.1->xV a.p b.p=true:=(by grind[xV])
 refine UB h ?_ λw=> ?_
 .unfold nV at h⊢
  rw[Bl,Bl,Bl]
  refine⟨h.filter _,⟨h.filter _,⟨h.filter _,h.filter _, ?_⟩, ?_⟩, ?_⟩
  .grind
  .grind
  .intro a ha b hb
   have h1:=(Bq.1 ha).2
   rw[Al,Al]at hb
   grind
 grind
def gH (l:List Wr) (r:Int):List (Int×List Wr):=if l.filter (λw=>w.p.1==r)= []then []else [(r,l.filter (λw=>w.p.1==r))]
theorem uP {l:List Wr}: ∀q∈gH l r,q.1=r:=(by grind[gH])
theorem yN2 {l:List Wr} (h:nV l) (hr: ∀w∈l,w.p.1=0\/w.p.1=1\/w.p.1=2\/w.p.1=3):ml l=gH l 0++(gH l 1++(gH l 2++gH l 3)):=by
 have hb: ∀r:Int,∀w∈l.filter (λw=>w.p.1==r),w.p.1=r:=sm
 have e:=yS2 h hr
 unfold ml
 rw[e,D2,D2,D2,KM (hb 0) sm]
 have e0: ∀r,(if l.filter (λw=>w.p.1==r)= []then []else [(r,l.filter (λw=>w.p.1==r))])=gH l r:=λ_=>rfl
 rw[<-e,e0,Bu,KM (hb 1) (λq hq=>by rw[uP q hq];decide),e0,
  KM (hb 2) (λq hq=>by
   rcases Al.1 hq with hq|hq<;>rw[uP q hq]<;>decide),e0,
  KM (hb 3) (λq hq=>by
   rcases Al.1 hq with hq|hq
   .rcases Al.1 hq with hq|hq<;>rw[uP q hq]<;>decide
   .rw[uP q hq];decide),e0]
 simp
theorem wj9 {g:Int} (he:(fT g).2.2=0): ∃(tn:Nat) (T:bL),(fT g).1=(tn:Int)/\bO[tn]? =some T:=by
 unfold fT at he⊢
 split at he<;>rename_i q0
 .rw[ahg q0];exact⟨0,_,rfl,rfl⟩
 .rw[ahf q0]
  split at he<;>rename_i q1
  .rw[ahg q1];exact⟨0,_,rfl,rfl⟩
  .rw[ahf q1]
   split at he<;>rename_i q2
   .rw[ahg q2];exact⟨1,_,rfl,rfl⟩
   .rw[ahf q2]
    split at he<;>rename_i q3
    .rw[ahg q3];exact⟨2,_,rfl,rfl⟩
    grind
def zy (x:Ln):Prop:=nU x.r x.k (xI x.v)=true
theorem xM3 {data:ahP} (h:nU p.1 p.2 data):fB ⟨p.1,p.2,(eF bO (fT p.1).1 data).1⟩/\xI (eF bO (fT p.1).1 data).1=data:=by
 unfold nU at h
 simp only[Ab,ahl]at h
 obtain⟨h1,h2,h3⟩:=h
 obtain⟨tn,T,aa,hT⟩:=wj9 h1
 have ab:bO.getD tn dS=T:=by grind
 have cN:=Uh tn data
 rw[aa]at h2 h3⊢
 rw[Az,ab]at h3
 have hk:=KF tn T hT (eF bO tn data).1 (by rw[h3])
 rw[h3]at hk
 refine⟨⟨(by grind),h1,cN.2⟩, ?_⟩
 obtain⟨hl,ad⟩:=A3.1 hT
 simp_all[eF,xc1]
theorem UD {U:Type} {p q:Pl} {v:U} (h:q≠p): ∀{W:List (Pl×U)},dO p (W++ [(q,v)])=dO p W
 | []=>by grind[dO]
 |e::W=>by
  rw[Bm,dO,dO,UD h]
theorem UE {U:Type} {p q:Pl} {v:U}: ∀{W:List (Pl×U)} {i:Nat} {u:U},dO p W=some (i,u)->(dO q (W.set i (p,v))).map (·.2)=if q=p then some v else(dO q W).map (·.2)
 | [],i,u,h=>by trivial
 |e::W,i,u,h=>by
  rw[dO]at h
  by_cases c:e.1=p
  .rw[ahg c]at h
   simp only[ahk,ahq]at h
   obtain⟨rfl,rfl⟩:=h
   rw[Ch,dO,dO]
   grind
  .rw[ahf c,Aw]at h
   obtain⟨⟨j,w⟩,h1,h2⟩:=h
   simp only[ahq]at h2
   obtain⟨rfl,rfl⟩:=h2
   rw[Bz,dO,dO]
   by_cases d:e.1=q
   .grind
   .rw[ahf d,ahf d,Option.map_map,Option.map_map]
    exact UE h1
theorem Oq (m:Mp U) (p q:Pl) (v:U):(m.put p v).get q=if q=p then some v else m.get q:=by
 unfold Mp.get Mp.put Mp.at
 cases h:dO p m.W with
 |none=>
  simp only
  by_cases d:q=p
  .subst d
   rw[Kz h,ahg rfl];rfl
  .rw[UD (by grind),ahf d]
 |some w=>grind[UE]
theorem kK {m:Mp U}:m.get p=none↔m.at p=none:=by
 grind[Mp.get,Option.map_eq_none_iff]
def uQ (s:List (Pl×ahP)×List Ln) (q:Pl×ahP):List (Pl×ahP)×List Ln:=
 if(s.1.any λe=>e.1==q.1)=true then s else(s.1++ [q],if nU q.1.1 q.1.2 q.2=true then tD s.2 ⟨q.1.1,q.1.2,(eF bO (fT q.1.1).1 q.2).1⟩else s.2)
structure nW (n:Nat) (s:List (Pl×ahP)×List Ln) (m:M3):Prop where
 same:m.1=m.2.1
 now:cI m.2.1 s.2
 sn:m.2.2.ok
 seen: ∀p,m.2.2.get p=none↔(s.1.any λe=>e.1==p)=false
 Oh: ∀p v,m.2.2.get p=some v->1<=v/\v<=n
 lines: ∀x∈s.2,zy x/\(x.at,xI x.v)∈s.1
 rows: ∀q∈s.1,nU q.1.1 q.1.2 q.2=true-> ∃x∈s.2,x.at=q.1/\xI x.v=q.2
 len:s.2.length<=n
theorem nW.step {n:Nat} {s:List (Pl×ahP)×List Ln} {m:M3} (h:nW n s m) (q:Pl×ahP):nW (n+1) (uQ s q) (zw q.1 q.2 m):=by
 obtain⟨p,data⟩:=q
 obtain⟨a,b,c⟩:=m
 obtain⟨se,out⟩:=s
 obtain⟨h1,h2,h3,h4,h6,h5,h7,h8⟩:=h
 simp only at h1 h2 h3 h4 h5 h6 h7 h8
 subst h1
 have aa: ∀w:Int,1<=w->w<=(n:Int)+1-> ∀q v,(c.put p w).get q=some v->1<=v/\v<=((n+1:Nat):Int):=(by grind[Oq])
 unfold uQ zw
 simp only
 cases hs:se.any λe=>e.1==p with
 |true=>
  have hc:c.get p≠none:=(by grind)
  obtain⟨v,hv⟩:=Option.ne_none_iff_exists'.1 hc
  have ad:lk c p=v:=by unfold lk;grind
  have af:=h6 p v hv
  rw[ahg rfl,ahf om,ad]
  refine⟨rfl,h2,Mp.iS h3 _ _,λq=> ?_,aa _ om om,h5,h7,by grind⟩
  grind[Oq]
 |false=>
  have hg:=(h4 p).2 hs
  have ad:lk c p=0:=by unfold lk;grind
  have ab: ∀q,(c.put p (0+1)).get q=none↔((se++ [(p,data)]).any λe=>e.1==q)=false:=(by grind[Oq])
  rw[ahf sm,ad]
  by_cases hr:nU p.1 p.2 data=true
  .rw[ahg hr,ahg (by grind)]
   obtain⟨hl,hd⟩:=xM3 hr
   have ha:il out p=false:=by
    cases e:il out p with
    |false=>rfl
    |true=>
     obtain⟨x,hx,ah⟩:=Ac.1 (fV.1 e)
     grind
   have hn:=h2.ins hl ha
   rw[show(Ln.mk p.1 p.2 (eF bO (fT p.1).1 data).1).at=p from rfl,hd]at hn
   refine⟨rfl,hn,Mp.iS h3 _ _,ab,aa _ om om,λx hx=> ?_,λq hq ae=> ?_, ?_⟩
   .rcases Af.1 ((uN _ _).mem_iff.1 hx)with rfl|hx
    .refine⟨?_,List.mem_append_right _ (Bb.2 ?_)⟩
     .show nU p.1 p.2 (xI _)=true
      grind
     .show(p,xI _)=(p,data)
      rw[hd]
    grind
   .rcases Al.1 hq with hq|hq
    .grind[uN]
    .rw[Bb]at hq
     subst hq
     exact⟨_,(uN _ _).mem_iff.2 (Av ..),rfl,hd⟩
   .rw[(uN _ _).length_eq]
    grind
  .rw[ahf hr,ahf (by grind)]
   refine⟨rfl,h2,Mp.iS h3 _ _,ab,aa _ om om,(by grind),λq hq ae=> ?_,by grind⟩
   grind
theorem UF:nW 0 ([],[]) (uM _,uM _,uM _):=by
 refine⟨rfl,⟨TV _,List.Pairwise.nil,List.Perm.nil,sm⟩,TV _,λp=> ?_,λp v h=> ?_,sm,sm,sm⟩
 .exact⟨λ_=>rfl,λ_=>rfl⟩
 trivial
end Go.Proofs.YtplackkccmeioaaGreat
