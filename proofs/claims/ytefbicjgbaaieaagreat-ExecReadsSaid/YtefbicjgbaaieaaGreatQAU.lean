/-
  What is otherwise now, plainly: as a list that rises by place, and by ranges. Used by the walks of exec's puts and of the document's writes.
  Conditions: as each theorem states them.
-/
import Derived.Test.YtefbicjgbaaieaaGreatQAT
import Derived.Test.YtefbicjgbaaieaaGreatQAP
import Derived.Test.YtefbicjgbaaieaaGreatQAO
import Derived.Test.YtefbicjgbaaieaaGreatQAJ
set_option maxHeartbeats 8000000
namespace Go.Proofs.YtefbicjgbaaieaaGreat
open Go Go.Vx R Go.Proofs.Tryz
set_option maxRecDepth 100000
variable{l:List Ln}{α:Type}{b:Mp (List UInt8)}{W:List (Pl×α)}{bs:List Nat}{seen:List Nat}{p:Pl}{x:Ln}{r:Int}{st:GStmt}
theorem zB5{cols:List GCol}{row:List GValue}(hc:cols.length<=20)(hv:∀v∈row,v.ok)(h:mayT cols row=0):LightR row:=by
 have hl:=zl1 h;refine⟨om,λv aa=>?_,hv⟩;rcases zO6 (yK2 h v aa)with⟨_,_,h3⟩|⟨_,_,h3⟩|⟨_,h3⟩|⟨_,_,h3⟩;.rw[h3];decide
 .rw[h3];decide
 .rw[h3];decide
 .omega
theorem xj0(tn:Nat)(T:GTable)(hT:tabsS[tn]?=some T)(row:List GValue):keyR 3 tn T row (wP tn)=keyS tn T row:=by
 unfold keyR keyS;by_cases h:mayT T.cols row≠0;.rw[if_pos h,if_pos h]
 .rw[if_neg h,if_neg h];have hl:=zl1 (Classical.not_not.1 h);have e0:row.headD v0=row.getD 0 zeroV:=by cases row<;>rfl
  rw[e0];have ev:v0=zeroV:=rfl;rw[ev];obtain⟨aa,ab⟩:=A1.1 hT;have h3:tn<3:=aa;unfold zS1 wP;generalize row.getD 0 zeroV=x;match tn,h3 with
  |0,_=>
   have hp:T.place=0:=by cases hT;decide
   simp only[hp,if_true,true_and];by_cases q0:x.n=0;.simp[q0,show min (max (0:Int) (-1)) 4=0 by decide]
   .by_cases q1:x.n=1;.simp[q1,show min (max (1:Int) (-1)) 4=1by decide]
    .have n0:¬min (max x.n (-1)) 4=0:=om;have n1:¬min (max x.n (-1)) 4=1:=om;simp[q0,q1,n0,n1]|1,_=>
   have hp:¬T.place=0:=by cases hT;decide
   simp|2,_=>
   have hp:¬T.place=0:=by cases hT;decide
   simp
theorem yt8(tn:Nat)(T:GTable)(hT:tabsS[tn]?=some T)(row:List GValue)(hr:row.length<=maxLen)(hv:∀v∈row,v.ok):Pure prog 88 [schR tabsS,.int .i64 tn,.sl .ro (row.map GValue.row)] (keyV (keyS tn T row)):=by
 obtain⟨aa,ab⟩:=A1.1 hT;have hk:=(by decide:∀T∈tabsS,0<=T.key/\T.key<T.cols.length/\T.cols.length<=20) T (ab▸A8 aa);rw[<-xj0 tn T hT row];exact xp0 yT tabsS tn aa T ab row hr (zB5 hk.2.2 hv) dc ⟨hk.1,hk.2.1⟩ (wP tn) λr h1 h2 h3=>by have ad:tn<3:=aa;exact yE1 tn r om om
def runB:Ob:=.box [.sl .ro yT,.sl .ro (tabsS.map GTable.row),.mp 0,.mp 1,.mp 2]
def runS(a b:Mp (List UInt8))(c:Mp Int):St:=[a.ob .str,b.ob .str,c.ob (V.int .i64),runB]
theorem xR9{α:Type}{g:α->V}(hg:∀v,ltA 0 (g v)=true)(n:Nat):∀W:List (Pl×α),(kvE g W).all (ltA n)=true
 |[]=>rfl|e::W=>by rw[kvE,Ap,Ap,xR9 hg n W,yJ9 (A2 _) (hg e.2)];rfl
theorem xS2{g:α->V}(hg:∀v,ltA 0 (g v)=true)(n:Nat)(m:Mp α):ltOb n (m.ob g)=true:=xR9 hg n m.W
theorem xU(n:Nat)(h:3<=n)(a b:Mp (List UInt8))(c:Mp Int):(runS a b c).all (ltOb n)=true:=by have h0:decide (0<n)=true:=decide_eq_true om;have h1:decide (1<n)=true:=decide_eq_true om;have h2:decide (2<n)=true:=decide_eq_true om;simp only[runS,Ap,C3,Ck,xS2 (g:=V.str) (λ_=>rfl),xS2 (g:=V.int .i64) (λ_=>rfl),Ar];simp[runB,ltOb,ltC,ltK,h0,h1,h2]
def cntP(c:Mp Int)(p:Pl):Int:=(c.get p).getD 0
def zl0(rng:Int)(key data:List UInt8):Bool:=decide ((ofS rng).2.2=0)&&(decide ((rowF tabsS (ofS rng).1 data).2=0)&&decide (keyS (ofS rng).1.toNat (tabsS.getD (ofS rng).1.toNat noT) (rowF tabsS (ofS rng).1 data).1=(rng,key,0)))
def tkS(m:Mp (List UInt8)×Mp (List UInt8)×Mp Int):St:=runS m.1 m.2.1 m.2.2
abbrev M3:=Mp (List UInt8)×Mp (List UInt8)×Mp Int
def zZ7(p:Pl)(data:List UInt8)(m:M3):M3:=if cntP m.2.2 p=0/\zl0 p.1 p.2 data=true then(m.1.put p data,m.2.1.put p data,m.2.2.put p (cntP m.2.2 p+1))else(m.1,m.2.1,m.2.2.put p (cntP m.2.2 p+1))
theorem xG3{u:Nat}(h:u<18446744073709551616):-9223372036854775808<=zagF u/\zagF u<=9223372036854775807:=by unfold zagF;split<;>omega
theorem ya0:(v0:GValue).ok:=⟨dc,dc,dc⟩
theorem mkOk{k n:Int}{s:List UInt8}(h1:-9223372036854775808<=k/\k<=9223372036854775807)(h2:-9223372036854775808<=n/\n<=9223372036854775807)(h3:s.length<=maxLen):(GValue.mk k n s).ok:=⟨h1,h2,h3⟩
theorem xn8:∀b:List UInt8,(zf4 b).v.ok
 |[]=>ya0|c::rest=>by
  rw[zf4];unfold zc4;split;.exact ya0
  .split
   .unfold za1;split;.exact ya0
    .split;.exact ya0
     .have:=((c::rest).getD 1 0).toNat_lt;exact mkOk (k:=1) (n:=((((c::rest).getD 1 0).toNat:Nat):Int)) (s:=[]) dc ⟨om,om⟩ dc
   .split
    .split;.exact ya0
     .exact mkOk (k:=2) (s:=[]) dc (xG3 (zC1 rest 0 0 dc dc)) dc
    .split
     .split;.exact ya0
      .split;.exact ya0
       .rename_i h;exact mkOk (k:=3) (n:=0) dc dc (by unfold maxLen;omega)
     .exact ya0
theorem xe4:∀(n:Nat)(b:List UInt8)(l:List GValue),rowG n b=some l->l.length=n/\∀v∈l,v.ok
 |0,b,l,h=>by
  rw[rowG]at h;split at h;.cases h;exact⟨rfl,λv hv=>by cases hv⟩
  .cases h|n+1,b,l,h=>by
  rw[rowG]at h;split at h
  .rw[Ba]at h;obtain⟨l',h1,rfl⟩:=h;obtain⟨h2,h3⟩:=xe4 n _ l' h1;refine⟨by simp[h2],λv hv=>?_⟩;rcases Ag.1 hv with rfl|hv;.exact xn8 b
   .exact h3 v hv
  .cases h
theorem yB3(t:Nat)(data:List UInt8):(rowF tabsS t data).1.length<=maxLen/\∀v∈(rowF tabsS t data).1,v.ok:=by
 have h0:([]:List GValue).length<=maxLen/\∀v∈([]:List GValue),v.ok:=⟨A2 _,λv hv=>by cases hv⟩;unfold rowF;split
 .rename_i h;have hc:=(by decide:∀T∈tabsS,T.cols.length<=maxLen) (tabsS[(t:Int).toNat]'om) (A8 _);unfold R.rowC;split
  .unfold rowR;split;.rename_i l hl;obtain⟨h1,h2⟩:=xe4 _ _ l hl;exact⟨by rw[h1];exact hc,h2⟩
   .exact h0
  .exact h0
 .exact h0
theorem xY7(g:Nat)(hg:g<1000)(key data:List UInt8)(hd:data.length<=maxB)(a b:Mp (List UInt8))(sn:Mp Int)(ha:a.ok)(aj:b.ok)(hs:sn.ok)(a8:sn.at (g,key)=none->a.at (g,key)=none/\b.at (g,key)=none)(aw:∀i v,sn.at (g,key)=some (i,v)->1<=v/\v<=1000000):VCalls prog 41 [.ptr 3 0,.int .i64 g,.agg [.str key,.str data]] (runS a b sn) (λr s=>r=.tup []/\s=tkS (zZ7 (g,key) data (a,b,sn))):=by
 obtain⟨M,hM⟩:=eX (zZ7 (g,key) data (a,b,sn));rw[hM];have ret:∀(a' b':Mp (List UInt8))(ak:Mp Int)(σl:St),M=(a',b',ak)->wret (some (.tup [])) 4 (λr s=>r=.tup []/\s=tkS M) (a'.ob .str::b'.ob .str::ak.ob (V.int .i64)::.box [.sl .ro yT,.sl .ro (tabsS.map GTable.row),.mp 0,.mp 1,.mp 2]::σl):=λa' b' ak σl h=>by subst h;exact xP 4 rfl rfl (xU 4 dc a' b' ak) (A3 _) (zD rfl) ⟨rfl,rfl⟩
 have aA:=Of_w g hg;refine iV 4 func41 ntmps41 results41 λc hc hb=>?_;refine zA ?_;simp[go_sem,runS,runB];refine pC aA ?_;simp[go_sem,ofV];obtain⟨ob,aq⟩:∃ob:Ob->R,ob=λo=>xY (some (kPl,.int .i64 0)) [o] (.mp 0) (plV (g,key)) false:=⟨_,rfl⟩;obtain⟨k1,af⟩:=eX (cntP sn (g,key));cases aa:sn.at (g,key)with
 |none=>
  have ab:=Mp.get_none aa;have ag:k1=0:=by rw[<-af];unfold cntP;rw[ab];rfl
  subst ag;refine yD0 [(5,1),(7,3)] ⟨0,6,[2],some (2,ob)⟩ sm kR kR ?_;simp[go_sem];refine yl4 (kv:=plV (g,key)) (id:=2) (n0:=⟨0,6,[2],some (2,ob)⟩) sg (by simp[go_sem,plV]) Tryz.mapT125 aq rfl (Nat.lt_of_sub_eq_succ rfl) (yb8 (m:=sn) rfl (g,key) false) ?_;simp[go_sem,ab];refine zp4 ?_ ?_;.simp[go_sem,yq0 hs aa];refine⟨sm,λ_=>.inr ?_⟩;exact Kp.of_ex (k:=⟨0,6,[2],some (2,ob)⟩) (σ:=[a.ob .str,b.ob .str,sn.ob (V.int .i64),runB,.box [.str key,.str data],.box [.int .i64 g,.str key]]) (id:=2) (o:=sn.ob (V.int .i64)) (o':=(sn.ent (g,key) 0).ob (V.int .i64)) rfl rfl (λq hq _=>by cases hq;rw[aq];first|done|exact xs6 rfl aa)
  simp[go_sem,yq0 hs aa,zY1 hs];obtain⟨i1,ar⟩:=Mp.put_at sn (g,key) 1;by_cases he:(ofS g).2.2=0;rotate_left
  .have ad:((ofS g).2.2!=0)=true:=by simpa using he
   refine yU [] 6 sm kR kR ?_;simp[go_sem,ad];exact ret a b _ _ (by rw[<-hM];unfold zZ7 zl0;simp[af,he])
  have ad:((ofS g).2.2!=0)=false:=by simpa using he
  have e1:(sn.put (g,key) 1).ob (V.int .i64)=.mp (kvE (V.int .i64) (sn.put (g,key) 1).W) (sn.put (g,key) 1).bs (sn.put (g,key) 1).clk:=rfl;refine yU [] 6 sm kR kR ?_;simp[go_sem,ad,e1,zc0,ar,zb2,ze5];rw[<-e1];obtain⟨ax,ay⟩:=a8 aa;obtain⟨tn,T,az,hT⟩:∃(tn:Nat)(T:GTable),(ofS g).1=(tn:Int)/\tabsS[tn]?=some T:=by
   unfold ofS at he⊢;split at he<;>rename_i q0;.rw[if_pos q0];exact⟨0,_,rfl,rfl⟩
   .rw[if_neg q0];split at he<;>rename_i q1;.rw[if_pos q1];exact⟨0,_,rfl,rfl⟩
    .rw[if_neg q1];split at he<;>rename_i q2;.rw[if_pos q2];exact⟨1,_,rfl,rfl⟩
     .rw[if_neg q2];split at he<;>rename_i q3;.rw[if_pos q3];exact⟨2,_,rfl,rfl⟩
      .exact absurd he dc
  have aB:tabsS.getD tn noT=T:=by rw[A7,hT];rfl
  have an:=xQ8 yT tabsS tn data hd dc;have ah:=yB3 tn data;obtain⟨rf,a1⟩:=eX (rowF tabsS tn data);rw[a1]at an ah;have ao:=yt8 tn T hT rf.1 ah.1 ah.2;obtain⟨ks,a6⟩:=eX (keyS tn T rf.1);rw[a6]at ao;have aC:zl0 g key data=(decide (rf.2=0)&&decide (ks=(((g:Nat):Int),key,0))):=by unfold zl0;rw[az,Az,aB,a1,a6,he];simp
  have ae:M=if zl0 g key data=true then(a.put (g,key) data,b.put (g,key) data,sn.put (g,key) 1)else(a,b,sn.put (g,key) 1):=by rw[<-hM];unfold zZ7;rw[af];simp
  rw[aC]at ae;obtain⟨kr,kk,ke⟩:=ks;refine zA ?_;refine yU [(7,0)] 6 sm kR kR ?_;simp[go_sem,az];refine pD an ?_;simp[go_sem,rowV];by_cases r0:rf.2=0;rotate_left
  .have au:(rf.2!=0)=true:=by simpa using r0
   simp[go_sem,au];exact ret a b _ _ (by rw[ae];simp[r0])
  have au:(rf.2!=0)=false:=by simpa using r0
  simp[go_sem,au];refine pC ao ?_;simp[go_sem,keyV];by_cases k0:ke=0;rotate_left
  .have ai:(ke==0)=false:=by simpa using k0
   simp[go_sem,ai];exact ret a b _ _ (by rw[ae];simp[k0])
  have ai:(ke==0)=true:=by simpa using k0
  by_cases k2:kr=((g:Nat):Int);rotate_left
  .have al:(kr==((g:Nat):Int))=false:=by simpa using k2
   simp[go_sem,ai,al];exact ret a b _ _ (by rw[ae];simp[k2])
  have al:(kr==((g:Nat):Int))=true:=by simpa using k2
  by_cases k3:kk=key;rotate_left
  .have av:(kk==key)=false:=by simpa using k3
   simp[go_sem,ai,al,av];exact ret a b _ _ (by rw[ae];simp[k3])
  have av:(kk==key)=true:=by simpa using k3
  simp[go_sem,ai,al,av];refine yD0 [(14,3),(16,3),(17,3),(19,3)] ⟨0,6,[0,1],none⟩ sm kR kR ?_;simp[go_sem];have keep:∀(τ:St)(i:Nat)(o o':Ob),([0,1]:List Nat).contains i=true->τ[i]?=some o->Kp.of ⟨0,6,[0,1],none⟩ (τ.set i o')=Kp.of ⟨0,6,[0,1],none⟩ τ:=λτ i o o' h1 h2=>Kp.of_ex (k:=⟨0,6,[0,1],none⟩) h1 h2 (λp hp _=>by cases hp);refine zp4 ?_ ?_;.simp[go_sem,zK7 ha ax];refine⟨sm,λ_=>.inr ?_⟩;exact keep [a.ob .str,b.ob .str,(sn.put (g,key) 1).ob (V.int .i64),runB,.box [.str key,.str data],.box [.int .i64 g,.str key]] 0 _ ((a.ent (g,key) []).ob .str) rfl rfl
  simp[go_sem,zK7 ha ax];refine zC8 ?_ ?_;.simp[go_sem,zx6 ha];refine⟨sm,λ_=>.inr ?_⟩;exact keep [(a.ent (g,key) []).ob .str,b.ob .str,(sn.put (g,key) 1).ob (V.int .i64),runB,.box [.str key,.str data],.box [.int .i64 g,.str key]] 0 _ ((a.put (g,key) data).ob .str) rfl rfl
  simp[go_sem,zx6 ha];refine zp4 ?_ ?_;.simp[go_sem,zK7 aj ay];refine⟨sm,λ_=>.inr ?_⟩;exact keep [(a.put (g,key) data).ob .str,b.ob .str,(sn.put (g,key) 1).ob (V.int .i64),runB,.box [.str key,.str data],.box [.int .i64 g,.str key]] 1 _ ((b.ent (g,key) []).ob .str) rfl rfl
  simp[go_sem,zK7 aj ay];refine zC8 ?_ ?_;.simp[go_sem,zx6 aj];refine⟨sm,λ_=>.inr ?_⟩;exact keep [(a.put (g,key) data).ob .str,(b.ent (g,key) []).ob .str,(sn.put (g,key) 1).ob (V.int .i64),runB,.box [.str key,.str data],.box [.int .i64 g,.str key]] 1 _ ((b.put (g,key) data).ob .str) rfl rfl
  simp[go_sem,zx6 aj];exact ret (a.put (g,key) data) (b.put (g,key) data) _ _ (by rw[ae];simp[r0,k0,k2,k3])|some q=>
  obtain⟨i,v⟩:=q;obtain⟨aE,aF⟩:=aw i v aa;have ab:=Mp.get_some aa;have ag:k1=v:=by rw[<-af];unfold cntP;rw[ab];rfl
  subst ag;have aD:IntKind.i64.wrap (k1+1)=k1+1:=i64_id om om;have a7:M=(a,b,sn.put (g,key) (k1+1)):=by rw[<-hM];unfold zZ7;rw[af,if_neg (λh=>om)]
  refine yD0 [(5,1),(7,3)] ⟨0,6,[2],some (2,ob)⟩ sm kR kR ?_;simp[go_sem];refine yl4 (kv:=plV (g,key)) (id:=2) (n0:=⟨0,6,[2],some (2,ob)⟩) sg (by simp[go_sem,plV]) Tryz.mapT125 aq rfl (Nat.lt_of_sub_eq_succ rfl) (yb8 (m:=sn) rfl (g,key) false) ?_;simp[go_sem,ab,aD];refine zp4 ?_ ?_;.simp[go_sem,yp9 hs aa];trivial
  simp[go_sem,yp9 hs aa,yw5 hs aa];obtain⟨i1,ar⟩:=Mp.put_at sn (g,key) (k1+1);by_cases he:(ofS g).2.2=0;rotate_left
  .have ad:((ofS g).2.2!=0)=true:=by simpa using he
   refine yU [] 6 sm kR kR ?_;simp[go_sem,ad];exact ret a b _ _ a7
  have ad:((ofS g).2.2!=0)=false:=by simpa using he
  have e1:(sn.put (g,key) (k1+1)).ob (V.int .i64)=.mp (kvE (V.int .i64) (sn.put (g,key) (k1+1)).W) (sn.put (g,key) (k1+1)).bs (sn.put (g,key) (k1+1)).clk:=rfl;have h1:decide (k1+1>1)=true:=decide_eq_true om;have aG:decide (1<k1+1)=true:=decide_eq_true om;refine yU [] 6 sm kR kR ?_;simp[go_sem,ad,e1,zc0,ar,zb2,ze5,h1];exact ret a b _ _ a7
structure LnOk(x:Ln):Prop where
 tab:∃(tn:Nat)(T:GTable),(ofS x.r).1=(tn:Int)/\tabsS[tn]?=some T/\mayT T.cols x.v=0
 err:(ofS x.r).2.2=0
 ok:∀v∈x.v,v.ok
structure NowOk(b:Mp (List UInt8))(l:List Ln):Prop where
 ok:b.ok
 rise:Rise (l.map Ln.at)perm:b.W.Perm (l.map λx=>(x.at,yN x.v))rows:∀x∈l,LnOk x
theorem Rise.nodup{l:List Pl}(h:Rise l):l.Nodup:=h.imp λ{a b}aa e=>by subst e;rw[zL4]at aa;cases aa
theorem zj3(l:List Ln)(x:Ln):(zT9 l x).Perm (x::l):=by unfold zT9;have h:=Cr (p:=λy:Ln=>yZ y.at x.at) (l:=l);have h2:(List.takeWhile (λy:Ln=>yZ y.at x.at) l++x::List.dropWhile (λy:Ln=>yZ y.at x.at) l).Perm (x::(List.takeWhile (λy:Ln=>yZ y.at x.at) l++List.dropWhile (λy:Ln=>yZ y.at x.at) l)):=Dx;rw[h]at h2;exact h2
theorem atF_iff:atF l p=true↔p∈l.map Ln.at:=by unfold atF;rw[D6,Ac];exact⟨λ⟨x,h1,h2⟩=>⟨x,h1,by simpa using h2⟩,λ⟨x,h1,h2⟩=>⟨x,h1,by simpa using h2⟩⟩
theorem zH4{p:Pl}:∀{l:List Ln},Rise (l.map Ln.at)->p∉l.map Ln.at->∀y∈l.dropWhile (λy=>yZ y.at p),yZ p y.at=true
 |[],_,_,y,hy=>by simp at hy|z::l,hr,hn,y,hy=>by
  unfold Rise at hr;rw[Al,Cv]at hr;rw[List.dropWhile_cons]at hy;by_cases q:yZ z.at p=true;.rw[if_pos q]at hy;exact zH4 (l:=l) hr.2 (λh=>hn (B4 _ h)) y hy
  .rw[if_neg q]at hy;have hz:yZ p z.at=true:=by
    rcases zB4 z.at p with r|r|r;.exact absurd r q
    .exact absurd (Ag.2 (.inl r.symm)) hn
    .exact r
   rcases Ag.1 hy with rfl|hy;.exact hz
   .exact zI4 hz (hr.1 _ (Ac.2 ⟨y,hy,rfl⟩))
theorem zA1{α:Type}{p:α->Bool}:∀{l:List α},∀y∈l.takeWhile p,p y=true
 |[],y,hy=>by simp at hy|z::l,y,hy=>by
  rw[List.takeWhile_cons]at hy;by_cases q:p z=true
  .rw[if_pos q]at hy;rcases Ag.1 hy with rfl|hy;.exact q
   .exact zA1 (l:=l) y hy
  .rw[if_neg q]at hy;cases hy
theorem yX7(h:Rise (l.map Ln.at))(hn:atF l x.at=false):Rise ((zT9 l x).map Ln.at):=by
 have aa:x.at∉l.map Ln.at:=λq=>by rw[atF_iff.2 q]at hn;cases hn
 have hd:=zH4 h aa;have ht:∀y∈l.takeWhile (λy:Ln=>yZ y.at x.at),yZ y.at x.at=true:=zA1;have hl:=Cr (p:=λy:Ln=>yZ y.at x.at) (l:=l);unfold zT9;rw[<-hl]at h;revert hd ht h;generalize l.takeWhile (λy:Ln=>yZ y.at x.at)=t;generalize l.dropWhile (λy:Ln=>yZ y.at x.at)=d;intro h hd ht;unfold Rise at h⊢;rw[Dm,C9]at h;rw[Dm,Al,C9,Cv];obtain⟨h1,h2,h3⟩:=h;refine⟨h1,⟨λp hp=>?_,h2⟩,λp hp q hq=>?_⟩;.obtain⟨y,hy,rfl⟩:=Ac.1 hp;exact hd y hy
 .obtain⟨y,hy,rfl⟩:=Ac.1 hp;rcases Ag.1 hq with rfl|hq;.exact ht y hy
  .exact h3 _ (Ac.2 ⟨y,hy,rfl⟩) _ hq
theorem NowOk.at_none(h:NowOk b l):b.at p=none↔atF l p=false:=by
 constructor;.intro q;cases r:atF l p with|false=>rfl|true=>obtain⟨x,hx,he⟩:=Ac.1 (atF_iff.1 r);have:(p,yN x.v)∈b.W:=h.perm.mem_iff.2 (Ac.2 ⟨x,hx,by rw[he]⟩);exact absurd rfl (zL1 q _ this)
 .intro q;cases r:b.at p with |none=>rfl|some w=>have hm:(p,w.2)∈b.W:=B7 (zj7 (W:=b.W) (i:=w.1) (v:=w.2) r);obtain⟨x,hx,he⟩:=Ac.1 (h.perm.mem_iff.1 hm);have:x.at=p:=congrArg Prod.fst he;rw[atF_iff.2 (Ac.2 ⟨x,hx,this⟩)]at q;cases q
theorem NowOk.ins(h:NowOk b l)(hx:LnOk x)(hn:atF l x.at=false):NowOk (b.put x.at (yN x.v)) (zT9 l x):=by
 have hb:=h.at_none.2 hn;refine⟨Mp.put_ok h.ok _ _,yX7 h.rise hn,?_,λy hy=>?_⟩
 .have e:(b.put x.at (yN x.v)).W=b.W++[(x.at,yN x.v)]:=by unfold Mp.put;rw[hb]
  rw[e];have h1:=((zj3 l x).map λx:Ln=>(x.at,yN x.v)).symm;refine List.Perm.trans ?_ h1;rw[Al];exact(List.perm_append_singleton _ _).trans (h.perm.cons _)
 .rcases Ag.1 ((zj3 l x).mem_iff.1 hy)with rfl|hy;.exact hx
  .exact h.rows y hy
theorem yb2:∀(r:List GExpr)(acc:List GValue),(∀e∈r,EOk e)->(∀v∈acc,v.ok)->(evsX noT [] r acc).2=0->(evsX noT [] r acc).1.length=acc.length+r.length/\∀v∈(evsX noT [] r acc).1,v.ok
 |[],acc,_,ha,_=>⟨rfl,ha⟩|e::r,acc,he,ha,h=>by
  rw[evsX]at h⊢;by_cases q:(evR noT [] e).2=0
  .rw[if_neg (λh=>h q)]at h⊢;have hv:(evR noT [] e).1.ok:=by have:=xU6 (he e sm) (by rw[<-xt6];exact q);rw[xt6];exact(xZ0 this).1
   have ih:=yb2 r (acc++[(evR noT [] e).1]) (λx hx=>he x (by simp[hx])) (λv aa=>by
    rcases Aq.1 aa with h|h;.exact ha v h
    .simp at h;subst h;exact hv) h;exact⟨by rw[ih.1];simp;omega,ih.2⟩
  .rw[if_pos q]at h;exact absurd h q
def out0:List V:=[.sl .full [],.int .i64 0]
def insR(a:Mp (List UInt8))(sn:Mp Int)(cnt:Int)(M:List Ln×Int)(r:V)(s:St):Prop:=∃(b':Mp (List UInt8)),s=runS a b' sn/\((M.2≠0/\r=.tup [.agg (Ot.row ⟨0,[]⟩),.int .i64 M.2])∨(M.2=0/\r=.tup [.agg (Ot.row ⟨cnt,[]⟩),.int .i64 0]/\NowOk b' M.1))
theorem xA1{k d:List UInt8}(h:b.at (r,k)=none):Ob.mp (kvE V.str b.W++[.agg [.int .i64 r,.str k],.str d]) (b.bs++[b.clk]) (b.clk+1)=(b.put (r,k) d).ob V.str:=by unfold Mp.put Mp.ob;rw[h];show _=Ob.mp (kvE V.str (b.W++[((r,k),d)])) _ _;rw[<-ys2];rfl
theorem yb6(tn:Nat)(T:GTable)(hT:tabsS[tn]?=some T)(row:List GValue)(h:(keyS tn T row).2.2=0):mayT T.cols row=0/\(ofS (keyS tn T row).1).1=(tn:Int)/\(ofS (keyS tn T row).1).2.2=0:=by
 obtain⟨aa,_⟩:=A1.1 hT;have h3:tn<3:=aa;unfold keyS at h⊢;by_cases h1:mayT T.cols row≠0;.rw[if_pos h1]at h;exact absurd h h1
 .rw[if_neg h1]at h⊢;refine⟨Classical.not_not.1 h1,?_⟩;unfold zS1;generalize row.getD 0 zeroV=x at h⊢;match tn,h3 with
  |0,_=>
   by_cases h2:x.n=0∨x.n=1
   .rw[if_neg (λq=>q.2 h2)];rcases h2 with h2|h2;.simp[wP,ofS,h2]
    .simp[wP,ofS,h2]
   .rw[if_pos ⟨rfl,h2⟩]at h;cases h|1,_=>simp[wP,ofS]|2,_=>simp[wP,ofS]
theorem yN3(tn:Nat)(T:GTable)(hT:tabsS[tn]?=some T)(st:GStmt)(a1:SOk st)(a b:Mp (List UInt8))(sn:Mp Int)(l:List Ln)(au:NowOk b l):VCalls prog 89 [.ptr 3 0,.int .i64 tn,.agg st.row] (runS a b sn) (insR a sn st.rows.length (insF tn T st.rows l)):=by
 obtain⟨R,hR⟩:=eX st.rows;obtain⟨a6,av⟩:=a1.rows;rw[hR]at a6 av⊢;generalize hM:insF tn T R l=M;have bad:∀(b':Mp (List UInt8))(e:Int)(σl:St),M.2=e->e≠0->wret (some (.tup [.agg [.sl .full [],.int .i64 0],.int .i64 e])) 4 (insR a sn R.length M) (a.ob .str::b'.ob .str::sn.ob (V.int .i64)::.box [.sl .ro yT,.sl .ro (tabsS.map GTable.row),.mp 0,.mp 1,.mp 2]::σl):=λb' e σl h1 h2=>xP 4 (s:=runS a b' sn) (r:=.tup [.agg (Ot.row ⟨0,[]⟩),.int .i64 e]) rfl rfl (xU 4 dc a b' sn) (A3 _) (wF ⟨zd4 ⟨yY,zU rfl,tV⟩,zb4 rfl,tV⟩) ⟨b',rfl,.inl ⟨by rw[h1];exact h2,by rw[h1]⟩⟩;have an:∀(b':Mp (List UInt8))(n:Nat),6<=n->([a.ob .str,b'.ob .str,sn.ob (V.int .i64),.box [.sl .ro yT,.sl .ro (tabsS.map GTable.row),.mp 0,.mp 1,.mp 2],.box st.row,.box out0]:St).all (ltOb n)=true:=λb' n hn=>by have h:=xU n om a b' sn;simp only[runS,runB,Ap,C3,Ck]at h⊢;rw[A6,A6,A6]at h⊢;refine⟨h.1,h.2.1,h.2.2.1,?_⟩;rw[A6];exact⟨h.2.2.2,by simp[ltOb,ltC,ltK,GStmt.row,out0]⟩
 have aj:∀(b':Mp (List UInt8))(k:Nat),([a.ob .str,b'.ob .str,sn.ob (V.int .i64),.box [.sl .ro yT,.sl .ro (tabsS.map GTable.row),.mp 0,.mp 1,.mp 2],.box st.row,.box out0,.app k 3]:St).all (ltOb 7)=true:=λb' k=>by have h:=an b' 7 dc;simp only[Ap,C3,Ck]at h⊢;rw[show ltOb 7 (.app k 3)=true from rfl,Ck];exact h
 refine iV 4 func89 ntmps89 results89 λc hc hb=>?_;refine zA ?_;simp[go_sem,runS,runB,hR];refine zH (S:=Nat×Mp (List UInt8)×List Ln) [0,1,5,6,22,23,24] (λu=>[.ptr 3 0,.int .i64 tn,.ptr 4 0,.ptr 5 0,.sl .ro (R.map λ(l:List GExpr)=>[V.sl .ro (l.map GExpr.row)]),.int .i64 R.length,.int .i64 u.1]) (λu=>[a.ob .str,u.2.1.ob .str,sn.ob (V.int .i64),.box [.sl .ro yT,.sl .ro (tabsS.map GTable.row),.mp 0,.mp 1,.mp 2],.box st.row,.box out0]) (λu=>R.length-u.1) (λu=>u.1<=R.length/\NowOk u.2.1 u.2.2/\insF tn T (R.drop u.1) u.2.2=M) hc hb (0,b,l) ⟨A2 _,au,hM⟩ ?_ ?_;.exact at_n 6 (by simp[go_sem,hR,out0]) rfl (an b 6 dc) dc (zC sg rfl)
 rintro⟨i,b1,l1⟩⟨hi,af,aa⟩;simp only at hi af aa;by_cases q:i<R.length;rotate_left;.rw[A9 om,insF]at aa;subst aa;refine zA ?_;simp[go_sem,q,hR,out0];exact xP 4 (s:=runS a b1 sn) (r:=.tup [.agg (Ot.row ⟨R.length,[]⟩),.int .i64 0]) rfl rfl (xU 4 dc a b1 sn) (A3 _) (wF ⟨zd4 ⟨yY,zU rfl,tV⟩,zb4 rfl,tV⟩) ⟨b1,rfl,.inr ⟨rfl,rfl,af⟩⟩
 have ei:=zS q om;obtain⟨x,hx⟩:=eX (R[i]);obtain⟨aF,aw⟩:=av x (hx▸A8 q);have ax:=yb2 x [] aw (λv hv=>by cases hv);rw[A5 q,hx,insF]at aa;obtain⟨E,hE⟩:=eX (evsX noT [] x []);rw[hE]at aa ax;refine zA ?_;simp[go_sem,q,hx];refine zk1 10 3 dc sg ?_;refine zH (S:=Nat×List GValue) [0,1,5,6,10,22,23,24,28,29,30] (λu=>[.ptr 3 0,.int .i64 tn,.ptr 4 0,.ptr 5 0,.sl (.app 6) (u.2.map GValue.row),.sl .ro (R.map λ(l:List GExpr)=>[V.sl .ro (l.map GExpr.row)]),.int .i64 R.length,.int .i64 i,.sl .ro (x.map GExpr.row),.int .i64 x.length,.int .i64 u.1]) (λu=>[a.ob .str,b1.ob .str,sn.ob (V.int .i64),.box [.sl .ro yT,.sl .ro (tabsS.map GTable.row),.mp 0,.mp 1,.mp 2],.box st.row,.box out0,.app u.2.length 3]) (λu=>x.length-u.1) (λu=>u.1<=x.length/\u.2.length<=u.1/\evsX noT [] (x.drop u.1) u.2=E) hc hb (0,[]) ⟨A2 _,A3 _,hE⟩ ?_ ?_;.exact at_n 7 (by simp[go_sem,out0]) rfl (aj b1 _) dc (zC sg rfl)
 rintro⟨j,acc⟩⟨hj,a7,ab⟩;simp only at hj a7 ab;by_cases qj:j<x.length
 .have ej:=zS qj om;obtain⟨e,he⟩:=eX (x[j]);have a8:=aw e (he▸A8 qj);rw[A5 qj,he,evsX,xt6]at ab;have ag:=xG8 e a8;obtain⟨kv,aA⟩:=eX (evN e);rw[aA]at ab ag;refine zA ?_;simp[go_sem,qj,he];refine zJ ag cB ⟨zv4 ⟨zU rfl,yY,zU rfl,zU rfl,zU rfl,yY,yY,yY,zU rfl,zU rfl,zU rfl,tV⟩,zQ,zL sg (by rw[GExpr.row_eq];rfl)⟩ rfl ?_;simp[go_sem,valP];by_cases q2:kv.2=0;rotate_left
  .have ao:(kv.2!=0)=true:=by simpa using q2
   rw[if_pos q2]at ab;subst ab;simp only at aa;rw[if_pos q2]at aa;simp[go_sem,ao,out0];exact bad b1 kv.2 _ (by rw[<-aa]) q2
  have ao:(kv.2!=0)=false:=by simpa using q2
  rw[if_neg (λh=>h q2)]at ab;simp[go_sem,ao];refine zI ⟨om,zV rfl⟩ ?_;simp[go_sem,ej];exact zG (j+1,acc++[kv.1]) ⟨by show x.length-(j+1)<x.length-j;omega,⟨qj,by show(acc++[kv.1]).length<=j+1;simp;omega,ab⟩,at_n 7 (by simp[go_sem,out0]) rfl (aj b1 _) dc (zC sg rfl)⟩
 rw[A9 om,evsX]at ab;subst ab;obtain⟨_,ai⟩:=ax rfl;simp only at aa ai;rw[if_neg (λh=>h rfl)]at aa;have ak:=yt8 tn T hT acc (by unfold maxLen;omega) ai;have ah:=yb6 tn T hT acc;obtain⟨⟨kr,kk,ke⟩,aB⟩:∃ks,keyS tn T acc=ks:=⟨_,rfl⟩;rw[aB]at aa ak ah;simp only at aa ah;refine zA ?_;simp[go_sem,qj];refine pC ak ?_;simp[go_sem,keyV];by_cases k0:ke=0;rotate_left
 .have aq:(ke !=0)=true:=by simpa using k0
  rw[if_pos k0]at aa;simp[go_sem,aq,out0];exact bad b1 ke _ (by rw[<-aa]) k0
 have aq:(ke !=0)=false:=by simpa using k0
 rw[if_neg (λh=>h k0)]at aa;obtain⟨al,aC,aD⟩:=ah k0;have aE:=zB5 ((by decide:∀T∈tabsS,T.cols.length<=20) T (B7 hT)) ai al;have ar:=xo7 acc aE;have eB:b1.ob .str=.mp (kvE .str b1.W) b1.bs b1.clk:=rfl;simp[go_sem,aq];cases ae:b1.at (kr,kk)with
 |some w=>
  have hA:atF l1 (kr,kk)=true:=by cases r:atF l1 (kr,kk)with |true=>rfl|false=>rw[af.at_none.2 r]at ae;cases ae
  rw[if_pos hA]at aa;have ad:idxW (kr,kk) b1.W=some w:=ae;refine yU [] 8 sm kR kR ?_;simp[go_sem,eB,zc0,ad,zb2,ze5,out0];rw[<-eB];exact bad b1 18 _ (by rw[<-aa]) dc|none=>have hA:=af.at_none.1 ae;rw[if_neg (by rw[hA];decide)]at aa;have ad:idxW (kr,kk) b1.W=none:=ae;have ay:=xA1 (d:=yN acc) ae;have az:=af.ins (x:=⟨kr,kk,acc⟩) ⟨⟨tn,T,aC,hT,al⟩,aD,ai⟩ hA;refine yU [] 8 sm kR kR ?_;simp[go_sem,eB,zc0,ad,zb2,ze5];refine zA ?_;refine yU [(6,0)] 8 sm kR kR ?_;simp[go_sem];refine pD ar ?_;simp[go_sem,zc0,ad,zb2,ze5,ay,ei];exact zG (i+1,b1.put (kr,kk) (yN acc),zT9 l1 ⟨kr,kk,acc⟩) ⟨by show R.length-(i+1)<R.length-i;omega,⟨q,az,aa⟩,at_n 6 (by simp[go_sem,out0]) rfl (an _ 6 dc) dc (zC sg rfl)⟩
theorem yF8(l:List GValue)(hl:l.length<=10000)(hz:l≠[]):VCalls prog 160 [.sl .ro (l.map GValue.row)] [] (λr s=>r=.lsv 0 3 l.length 0 l.length/\s=[.lst (l.map GValue.row) 3]):=by
 refine iV 0 func160 ntmps160 results160 λc hc hb=>?_;refine zp2 7 dc ?_;refine zA ?_;have hp:0<l.length:=by cases l with|nil=>exact absurd rfl hz|cons a l=>simp
 have hu:uni 3 (l.map GValue.row):=by intro r hr;obtain⟨v,_,rfl⟩:=Ac.1 hr;rfl
 simp[go_sem,hp];refine zI ⟨om,by simp[uni],hu⟩ ?_;simp[go_sem];exact yl2 sm ⟨rfl,rfl⟩
theorem yv5(T:GTable)(hT:T.cols.length<=maxLen)(row:List GValue)(hv:∀v∈row,v.ok)(e:GExpr)(he:EOk e):Pure prog 106 [.agg T.row,.sl .ro (row.map GValue.row),.agg e.row] (valP (evR T row e)):=by
 have an:=yv6 T hT e he;have hok:=@ys4 T row;generalize hM:evR T row e=M;unfold evR at hM;have ret:∀(v:GValue)(e:Int)(σ:St),(v,e)=M->wret (some (.tup [.agg v.row,.int .i64 e])) 0 (λr s=>r=valP M/\s=[]) σ:=λv e σ h=>zp0 h;refine iV 0 func106 ntmps106 results106 λc hc hb=>?_;refine zA ?_;simp[go_sem];refine zJ an cB (zL sg (by rw[GExpr.row_eq];rfl)) rfl ?_;simp[go_sem,yL];by_cases q:(xW T e).2=0;rotate_left
 .have q':((xW T e).2!=0)=true:=by simpa using q
  rw[if_pos q]at hM;simp[go_sem,q'];exact ret zeroV _ _ hM
 have q':((xW T e).2!=0)=false:=by simpa using q
 have n1:¬(xW T e).2≠0:=λh=>h q;rw[if_neg n1]at hM;by_cases hlen:row.length=T.cols.length;rotate_left
 .have h1:((row.length:Int)!=T.cols.length)=true:=by simp;omega
  rw[if_pos (by unfold zE5;rw[decide_eq_false hlen,C7])]at hM;simp[go_sem,q',h1];exact ret zeroV 9 _ hM
 have h1:((row.length:Int)!=T.cols.length)=false:=by simp;omega
 obtain⟨mr,ai⟩:=eX (zE5 T.cols row);have aa:=ai;unfold zE5 at aa;rw[decide_eq_true hlen,Ar]at aa;rw[ai]at hM hok;simp[go_sem,q',h1];refine zH (S:=Nat×GValue) [1,3,5,6,29,30,31] (λu=>[.sl .ro (row.map GValue.row),.ptr 0 0,.ptr 1 0,.ptr 2 0,.sl .ro (row.map GValue.row),.int .i64 row.length,.int .i64 u.1]) (λu=>[.box T.row,.box e.row,.box u.2.row]) (λu=>row.length-u.1) (λu=>u.1<=row.length/\(((row.zip T.cols).drop u.1).all λp=>yF6 p.1 p.2)=mr) hc hb (0,zeroV) ⟨A2 _,aa⟩ ?_ ?_;.exact at_n 3 (by simp[go_sem,zeroV]) rfl (by simp[ltOb,ltC,ltK,GExpr.row_eq,GTable.row,GValue.row]) (A2 _) (zC sg rfl)
 rintro⟨i,v0⟩⟨hi,hinv⟩;simp only at hi hinv;by_cases p:i<row.length;rotate_left
 .rw[A9 (by rw[List.length_zip];omega)]at hinv;have hm:mr=true:=hinv.symm;rw[if_neg (by rw[hm];decide)]at hM;have aj:=hok hm hv;have ab:Pure prog 178 [.agg T.row,.sl .ro (row.map GValue.row),.agg e.row] (valP (evF T row e)):=by
   unfold xW at q;by_cases d:xK e<=64;.rw[if_pos d]at q;exact yR9 aj hT 64 e d he.wide he.good q
   .rw[if_neg d]at q;cases q
  rw[hM]at ab;refine zA ?_;simp[go_sem,p];refine zJ ab cB ⟨zD rfl,zQ,zH0 e,tV⟩ rfl ?_;simp[go_sem,valP];exact zp0 rfl
 have qc:i<T.cols.length:=om;have ei:=zS p (by unfold maxLen at hT;omega);obtain⟨v,ak⟩:=eX (row[i]);obtain⟨C,hC⟩:=eX (T.cols[i]);have qz:i<(row.zip T.cols).length:=by rw[List.length_zip];omega
 rw[zi1 _ _ _ qz,List.getElem_zip,ak,hC]at hinv;obtain⟨tl,af⟩:∃tl,(((row.zip T.cols).drop (i+1)).all λp=>yF6 p.1 p.2)=tl:=⟨_,rfl⟩;rw[af]at hinv;unfold yF6 at hinv;have al:=yp0 v;simp only at hinv;generalize mayF v=mv at al hinv;refine zA ?_;simp[go_sem,p,ak];refine yU [(1,0)] 4 sm kR kR ?_;simp[go_sem];refine pD al ?_;refine(A4 mv).elim (λp2=>?_) (λp2=>?_);rotate_left
 .have hm:mr=false:=by rw[<-hinv,p2];simp
  rw[if_pos hm]at hM;simp[go_sem,p2];exact ret zeroV 9 _ hM
 rw[p2,Ar]at hinv;simp[go_sem,p2];by_cases k1:v.kind=C.kind
 .have ag:(v.kind !=C.kind)=false:=by simpa using k1
  have ad:(v.kind==C.kind)=true:=by simpa using k1
  rw[ad,Eo,Ar]at hinv;simp[go_sem,ag,qc,hC,ei];exact zG (i+1,v0) ⟨by show row.length-(i+1)<row.length-i;omega,⟨p,af.trans hinv⟩,at_n 3 (by simp[go_sem,GExpr.row_eq]) rfl (by simp[ltOb,ltC,ltK,GExpr.row_eq]) dc (zC sg rfl)⟩
 have ag:(v.kind !=C.kind)=true:=by simpa using k1
 have ad:(v.kind==C.kind)=false:=by simpa using k1
 rw[ad,E2]at hinv;simp[go_sem,ag,qc,hC];by_cases k0:v.kind=0
 .have ah:(v.kind !=0)=false:=by simpa using k0
  have ae:(v.kind==0)=true:=by simpa using k0
  rw[ae,Ar]at hinv;simp[go_sem,ah,ei];exact zG (i+1,v0) ⟨by show row.length-(i+1)<row.length-i;omega,⟨p,af.trans hinv⟩,at_n 3 (by simp[go_sem,GExpr.row_eq]) rfl (by simp[ltOb,ltC,ltK,GExpr.row_eq]) dc (zC sg rfl)⟩
 have ah:(v.kind !=0)=true:=by simpa using k0
 have ae:(v.kind==0)=false:=by simpa using k0
 rw[ae,C7]at hinv;rw[if_pos hinv.symm]at hM;simp[go_sem,ah];exact ret zeroV 9 _ hM
theorem xt7{T:GTable}{row:List GValue}(hv:∀v∈row,v.ok){e:GExpr}(he:EOk e)(h:(evR T row e).2=0):VK (evR T row e).1 (xW T e).1:=by
 unfold evR at h⊢;by_cases q:(xW T e).2=0;rotate_left;.rw[if_pos q]at h;exact absurd h q
 have n1:¬(xW T e).2≠0:=λh=>h q;rw[if_neg n1]at h⊢;cases hm:zE5 T.cols row with |false=>rw[hm]at h;simp at h|true=>
  rw[hm]at h;simp only[Bool.true_eq_false,if_false]at h⊢;unfold xW at q⊢;by_cases d:xK e<=64;.rw[if_pos d]at q⊢;exact xa2 (ys4 hm hv) 64 e d he.good q h
  .rw[if_neg d]at q;cases q
theorem xO4(T:GTable)(e:GExpr)(x:Ln)(l:List Ln)(acc:GValue):sumF T e (x::l) acc=if(evR T x.v e).2≠0then(zeroV,(evR T x.v e).2)else if(evR T x.v e).1.kind=0then sumF T e l acc else if(rngF (acc.n+(evR T x.v e).1.n)).2≠0then(zeroV,(rngF (acc.n+(evR T x.v e).1.n)).2)else sumF T e l ⟨2,(rngF (acc.n+(evR T x.v e).1.n)).1,[]⟩:=rfl
theorem xO9(T:GTable)(hT:T.cols.length<=maxLen)(e:GExpr)(he:EOk e)(l:List Ln)(hl:l.length<=10000)(hok:∀x∈l,∀v∈x.v,v.ok):VCalls prog 229 [.agg T.row,.agg e.row,.lsv 0 3 l.length 0 l.length] [.lst (l.map Ln.row) 3] (λr s=>r=valP (sumF T e l zeroV)/\s=[.lst (l.map Ln.row) 3]):=by
 generalize hM:sumF T e l zeroV=M;have ret:∀(v:GValue)(er:Int)(σ:St),(v,er)=M->σ.take 1=[.lst (l.map Ln.row) 3]->wret (some (.tup [.agg v.row,.int .i64 er])) 1 (λr s=>r=valP M/\s=[.lst (l.map Ln.row) 3]) σ:=by rintro v er σ rfl h;exact xP 1 h rfl (by simp[ltOb,ltC,ltK,Ln.row]) (A3 _) (zD rfl) ⟨rfl,rfl⟩
 refine iV 1 func229 ntmps229 results229 λc hc hb=>?_;refine zA ?_;simp[go_sem];refine zH (S:=Nat×GValue) [3,4,6,7,8,13,14,15] (λu=>[.ptr 1 0,.ptr 2 0,.ptr 3 0,.int .i64 0,.ptr 4 0,.lsv 0 3 l.length 0 l.length,.int .i64 l.length,.int .i64 u.1]) (λu=>[.lst (l.map Ln.row) 3,.box T.row,.box e.row,.box zeroV.row,.box u.2.row]) (λu=>l.length-u.1) (λu=>u.1<=l.length/\okI u.2.n/\u.2.s=[]/\sumF T e (l.drop u.1) u.2=M) hc hb (0,zeroV) ⟨A2 _,dc,rfl,hM⟩ ?_ ?_;.exact at_n 5 (by simp[go_sem,zeroV,GExpr.row_eq]) rfl (by simp[ltOb,ltC,ltK,GExpr.row_eq,GTable.row,GValue.row,Ln.row]) dc (zC sg rfl)
 rintro⟨i,acc⟩⟨hi,ha,has,hinv⟩;simp only at hi ha has hinv;by_cases q:i<l.length;rotate_left;.rw[A9 om]at hinv;refine zA ?_;simp[go_sem,q];exact ret acc 0 _ hinv rfl
 have ei:=zS q om;obtain⟨x,hx⟩:=eX (l[i]);have ai:x∈l:=hx▸A8 q;rw[A5 q,hx,xO4]at hinv;have aa:=yv5 T hT x.v (hok x ai) e he;have ad:=xt7 (hok x ai) (T:=T) he;obtain⟨⟨v,er⟩,hv⟩:∃kv,evR T x.v e=kv:=⟨_,rfl⟩;rw[hv]at hinv aa ad;simp only at hinv ad;refine zA ?_;simp[go_sem,q,hx];refine zJ aa cB ⟨zD rfl,zQ,zH0 e,tV⟩ rfl ?_;simp[go_sem,valP];by_cases q2:er=0;rotate_left
 .have ae:(er !=0)=true:=by simpa using q2
  rw[if_pos q2]at hinv;simp[go_sem,ae];exact ret zeroV er _ hinv rfl
 have ae:(er !=0)=false:=by simpa using q2
 rw[if_neg (λh=>h q2)]at hinv;have aj:=ad q2;simp[go_sem,ae];by_cases k0:v.kind=0
 .have af:(v.kind==0)=true:=by simpa using k0
  rw[if_pos k0]at hinv;simp[go_sem,af,ei];exact zG (i+1,acc) ⟨by show l.length-(i+1)<l.length-i;omega,⟨q,ha,has,hinv⟩,at_n 5 (by simp[go_sem,zeroV,GExpr.row_eq]) rfl (by simp[ltOb,ltC,ltK,GExpr.row_eq,Ln.row]) dc (zC sg rfl)⟩
 have af:(v.kind==0)=false:=by simpa using k0
 rw[if_neg k0]at hinv;have ab:=zU3 acc.n v.n ha aj.n;have ag:=yB2 (acc.n+v.n);obtain⟨⟨sn,se⟩,hs⟩:∃s,rngF (acc.n+v.n)=s:=⟨_,rfl⟩;rw[hs]at hinv ab ag;simp only at hinv ag;simp[go_sem,af];refine pC ab ?_;simp[go_sem,yL];by_cases q3:se=0;rotate_left
 .have ah:(se !=0)=true:=by simpa using q3
  rw[if_pos q3]at hinv;simp[go_sem,ah];exact ret zeroV se _ hinv rfl
 have ah:(se !=0)=false:=by simpa using q3
 rw[if_neg (λh=>h q3)]at hinv;simp[go_sem,ah,ei];exact zG (i+1,⟨2,sn,[]⟩) ⟨by show l.length-(i+1)<l.length-i;omega,⟨q,ag,rfl,hinv⟩,at_n 5 (by simp[go_sem,zeroV,GExpr.row_eq,has]) rfl (by simp[ltOb,ltC,ltK,GExpr.row_eq,Ln.row]) dc (zC sg rfl)⟩
def oneV(r:List GValue×Int):V:=if r.2=0then .tup [.agg (Ot.row ⟨0,[r.1]⟩),.int .i64 0]else .tup [.agg (Ot.row ⟨0,[]⟩),.int .i64 r.2]
theorem wb7(T:GTable)(hT:T.cols.length<=maxLen)(st:GStmt)(af:SOk st)(l:List Ln)(hl:l.length<=10000)(hok:∀x∈l,∀v∈x.v,v.ok):VCalls prog 155 [.agg T.row,.agg st.row,.lsv 0 3 l.length 0 l.length] [.lst (l.map Ln.row) 3] (λr s=>r=oneV (zJ3 T l st.items [])/\s=[.lst (l.map Ln.row) 3]):=by
 generalize hM:zJ3 T l st.items []=M;obtain⟨R,hR⟩:=eX st.items;obtain⟨ag,ae⟩:=af.items;rw[hR]at ag ae hM;have bad:∀(er:Int)(σ:St),([],er)=M->er≠0->σ.take 1=[.lst (l.map Ln.row) 3]->wret (some (.tup [.agg [.sl .full [],.int .i64 0],.int .i64 er])) 1 (λr s=>r=oneV M/\s=[.lst (l.map Ln.row) 3]) σ:=by rintro er σ rfl h0 h;refine xP 1 (r:=.tup [.agg (Ot.row ⟨0,[]⟩),.int .i64 er]) h rfl (by simp[ltOb,ltC,ltK,Ln.row]) (A3 _) (wF ⟨zd4 ⟨yY,zU rfl,tV⟩,zb4 rfl,tV⟩) ⟨?_,rfl⟩;unfold oneV;rw[if_neg h0]
 have good:∀(acc:List GValue)(σ:St),(acc,0)=M->σ.take 1=[.lst (l.map Ln.row) 3]->wret (some (.tup [.agg [.sl .full [[.sl .ro (acc.map GValue.row)]],.int .i64 0],.int .i64 0])) 1 (λr s=>r=oneV M/\s=[.lst (l.map Ln.row) 3]) σ:=by rintro acc σ rfl h;exact xP 1 (r:=.tup [.agg (Ot.row ⟨0,[acc]⟩),.int .i64 0]) h rfl (by simp[ltOb,ltC,ltK,Ln.row]) (A3 _) (wF ⟨zd4 ⟨yY,zU rfl,tV⟩,zb4 rfl,tV⟩) ⟨rfl,rfl⟩
 refine iV 1 func155 ntmps155 results155 λc hc hb=>?_;refine zA ?_;simp[go_sem,hR];refine zk1 8 3 dc sg ?_;refine zH (S:=Nat×List GValue) [2,3,4,6,7,8,15,16,17] (λu=>[.lsv 0 3 l.length 0 l.length,.ptr 1 0,.ptr 2 0,.ptr 3 0,.int .i64 0,.sl (.app 4) (u.2.map GValue.row),.sl .ro (R.map GItem.row),.int .i64 R.length,.int .i64 u.1]) (λu=>[.lst (l.map Ln.row) 3,.box T.row,.box st.row,.box [.sl .full [],.int .i64 0],.app u.2.length 3]) (λu=>R.length-u.1) (λu=>u.1<=R.length/\u.2.length<=u.1/\zJ3 T l (R.drop u.1) u.2=M) hc hb (0,[]) ⟨A2 _,A3 _,hM⟩ ?_ ?_;.exact at_n 5 (by simp[go_sem,hR]) rfl (by simp[ltOb,ltC,ltK,GTable.row,GStmt.row,Ln.row]) dc (zC sg rfl)
 rintro⟨i,acc⟩⟨hi,ha,hinv⟩;simp only at hi ha hinv;by_cases q:i<R.length;rotate_left;.rw[A9 om]at hinv;refine zA ?_;simp[go_sem,q];exact good acc _ hinv rfl
 have ei:=zS q om;obtain⟨x,hx⟩:=eX (R[i]);have ah:=(ae x (hx▸A8 q)).2;rw[A5 q,hx,zJ3]at hinv;refine zA ?_;simp[go_sem,q,hx];by_cases k4:x.kind=4;rotate_left
 .have ab:(x.kind==4)=false:=by simpa using k4
  rw[if_neg k4]at hinv;simp[go_sem,ab];refine zI ⟨om,zV rfl⟩ ?_;simp[go_sem,ei];exact zG (i+1,acc++[⟨2,l.length,[]⟩]) ⟨by show R.length-(i+1)<R.length-i;omega,⟨q,by show(acc++[_]).length<=i+1;simp;omega,hinv⟩,aN 5 (by simp[ltOb,ltC,ltK,Ln.row])⟩
 have ab:(x.kind==4)=true:=by simpa using k4
 rw[if_pos k4]at hinv;simp[go_sem,ab];have aa:=xO9 T hT x.e ah l hl hok;obtain⟨⟨v,er⟩,hv⟩:∃kv,sumF T x.e l zeroV=kv:=⟨_,rfl⟩;rw[hv]at hinv aa;simp only at hinv;refine zk6 0 aa cB rfl (by simp[ltOb,ltC,ltK,Ln.row]) ⟨zD rfl,zH0 x.e,.inl rfl,tV⟩ (by rintro r s ⟨rfl,rfl⟩;exact⟨_,rfl,by simp[ltOb,ltC,ltK,Ln.row]⟩) ?_;rintro r o ⟨rfl,ho⟩;cases ho;simp[go_sem,valP];by_cases q2:er=0;rotate_left
 .have ad:(er !=0)=true:=by simpa using q2
  rw[if_pos q2]at hinv;simp[go_sem,ad];exact bad er _ hinv q2 rfl
 have ad:(er !=0)=false:=by simpa using q2
 rw[if_neg (λh=>h q2)]at hinv;simp[go_sem,ad];refine zI ⟨om,zV rfl⟩ ?_;simp[go_sem,ei];exact zG (i+1,acc++[v]) ⟨by show R.length-(i+1)<R.length-i;omega,⟨q,by show(acc++[_]).length<=i+1;simp;omega,hinv⟩,aN 5 (by simp[ltOb,ltC,ltK,Ln.row])⟩
theorem yX6(y:GItem):Pure prog 228 [.agg y.row] (.bool (y.kind==3||y.kind==4)):=by
 refine iV 0 func228 ntmps228 results228 λc hc hb=>?_;refine zA ?_;by_cases k:y.kind=3
 .have k':(y.kind==3)=true:=by simpa using k
  simp[go_sem,k'];exact wR
 .have k':(y.kind==3)=false:=by simpa using k
  simp[go_sem,k'];exact wR
theorem xV6(l:List GItem)(hl:l.length<=12):Pure prog 290 [.sl .ro (l.map GItem.row),.fn 228 []] (.int .i64 (zc1 (λy=>y.kind==3||y.kind==4) l 0)):=by
 generalize hM:zc1 (λy:GItem=>y.kind==3||y.kind==4) l 0=M;have ret:∀(r:Int)(σ:St),r=M->wret (some (.int .i64 r)) 0 (λr s=>r=.int .i64 M/\s=[]) σ:=λr σ h=>by subst h;exact wR
 refine iV 0 func290 ntmps290 results290 λc hc hb=>?_;refine zA ?_;simp[go_sem];refine zH (S:=Nat) [0,1,6,7,8] (λi=>[.sl .ro (l.map GItem.row),.fn 228 [],.sl .ro (l.map GItem.row),.int .i64 l.length,.int .i64 (i:Int)]) (λ_=>[]) (λi=>l.length-i) (λi=>i<=l.length/\zc1 (λy=>y.kind==3||y.kind==4) (l.drop i) i=M) hc hb 0 ⟨A2 _,hM⟩ ?_ ?_;.exact aN 0 sm
 rintro i ⟨hi,hinv⟩;by_cases q:i<l.length;rotate_left;.rw[A9 om]at hinv;refine zA ?_;simp[go_sem,q];exact ret _ _ hinv
 have ei:=zS q om;obtain⟨y,hy⟩:=eX (l[i]);rw[A5 q,hy,zc1]at hinv;have aa:=yX6 y;generalize(y.kind==3||y.kind==4)=b at aa hinv;refine zA ?_;simp[go_sem,q,hy];refine pC aa ?_;refine(A4 b).elim (λp=>?_) (λp=>?_);.rw[if_pos p]at hinv;simp[go_sem,p];exact ret _ _ hinv
 .rw[if_neg (by rw[p];decide)]at hinv;simp[go_sem,p,ei];exact zG (i+1) ⟨om,⟨om,hinv⟩,aN 0 sm⟩
theorem xV0(l:List GItem)(hl:l.length<=12):Pure prog 227 [.sl .ro (l.map GItem.row),.fn 228 []] (.bool (zK0 l)):=by have h:=xV6 l hl;have hg:=zB1 (λy:GItem=>y.kind==3||y.kind==4) l 0;unfold zK0;rw[<-hg];generalize zc1 (λy:GItem=>y.kind==3||y.kind==4) l 0=n at h⊢;refine iW 0 func227 ntmps227 results227 λc hc hb=>zO ?_;simp[go_sem];refine pC h ?_;simp[go_sem];exact wR
theorem xQ1(st:GStmt)(aa:SOk st):Pure prog 154 [.agg st.row] (.bool (zK0 st.items)):=by have h:=xV0 st.items aa.items.1;generalize zK0 st.items=b at h⊢;refine iW 0 func154 ntmps154 results154 λc hc hb=>zO ?_;simp[go_sem];refine pC h ?_;simp[go_sem];exact wR
theorem zM6:∀{W:List (Pl×α)},(∀e∈W,e.1≠p)->W.filter (λe=>!decide (e.1=p))=W:=λ{W}h=>Dw.2 λe he=>by simp[h e he]
theorem zQ3{α:Type}{p:Pl}{v:α}:∀{W:List (Pl×α)}{i:Nat},(W.map (·.1)).Nodup->W[i]?=some (p,v)->W.eraseIdx i=W.filter (λe=>!decide (e.1=p))
 |[],i,_,h=>by simp at h|e::W,0,hn,h=>by simp only[List.getElem?_cons_zero,Option.some.injEq]at h;subst h;rw[Al,Cc]at hn;rw[List.eraseIdx_cons_zero,Dq,if_neg sm];exact(zM6 λe he q=>hn.1 (Ac.2 ⟨e,he,q⟩)).symm|e::W,i+1,hn,h=>by rw[Cs]at h;rw[Al,Cc]at hn;have aa:e.1≠p:=λq=>hn.1 (Ac.2 ⟨(p,v),B7 h,q.symm⟩);rw[List.eraseIdx_cons_succ,Dq,if_pos (by simp[aa]),zQ3 hn.2 h]
theorem wa8(hn:(b.W.map (·.1)).Nodup)(p:Pl):(b.del p).W=b.W.filter (λe=>!decide (e.1=p)):=by unfold Mp.del;cases h:b.at p with |none=>exact(zM6 (zL1 h)).symm|some q=>exact zQ3 hn (zj7 (i:=q.1) (v:=q.2) h)
theorem xe8{α:Type}{p:Pl}{u v:α}:∀{W:List (Pl×α)}{i:Nat},(W.map (·.1)).Nodup->W[i]?=some (p,u)->W.set i (p,v)=W.map (λe=>if e.1=p then(p,v)else e)
 |[],i,_,h=>by simp at h|e::W,0,hn,h=>by simp only[List.getElem?_cons_zero,Option.some.injEq]at h;subst h;rw[Al,Cc]at hn;rw[Dd,Al,if_pos rfl];congr 1;refine(List.map_id _).symm.trans (Bn λe he=>?_);rw[if_neg λq=>hn.1 (Ac.2 ⟨e,he,q⟩)];rfl|e::W,i+1,hn,h=>by rw[Cs]at h;rw[Al,Cc]at hn;have aa:e.1≠p:=λq=>hn.1 (Ac.2 ⟨(p,u),B7 h,q.symm⟩);rw[Ca,Al,if_neg aa,xe8 hn.2 h]
theorem NowOk.keys(h:NowOk b l):(b.W.map (·.1)).Nodup:=by have h1:=h.perm.map (·.1);rw[Br]at h1;exact h1.nodup_iff.2 h.rise.nodup
theorem NowOk.del(h:NowOk b l)(p:Pl):NowOk (b.del p) (l.filter λy=>!decide (y.at=p)):=by
 refine⟨Mp.del_ok h.ok _,?_,?_,λy hy=>h.rows y (B1.1 hy).1⟩;.exact List.Pairwise.sublist ((C4).map _) h.rise
 .rw[wa8 h.keys];have h1:=h.perm.filter (λe=>!decide (e.1=p));rw[List.filter_map]at h1;exact h1
theorem NowOk.turn(h:NowOk b l)(p:Pl)(row:List GValue)(hp:atF l p=true)(aa:LnOk ⟨p.1,p.2,row⟩):NowOk (b.put p (yN row)) (putF l p row):=by
 have ab:(putF l p row).map Ln.at=l.map Ln.at:=by
  unfold putF;rw[Br];refine Bn λy _=>?_;by_cases q:y.at=p;.simp only[Function.comp,if_pos q];rfl
  .simp only[Function.comp,if_neg q]
 refine⟨Mp.put_ok h.ok _ _,?_,?_,λy hy=>?_⟩;.rw[ab];exact h.rise
 .have e:(b.put p (yN row)).W=b.W.map (λe=>if e.1=p then(p,yN row)else e):=by unfold Mp.put;cases r:b.at p with|none=>rw[h.at_none.1 r]at hp;cases hp|some q=>exact xe8 h.keys (zj7 (i:=q.1) (v:=q.2) r)
  rw[e];have h1:=h.perm.map (λe=>if e.1=p then(p,yN row)else e);rw[Br]at h1;refine h1.trans (List.Perm.of_eq ?_);unfold putF;rw[Br];refine Bn λy _=>?_;by_cases q:y.at=p;.simp only[Function.comp,if_pos q];show _=((y.r,y.k),yN row);rw[<-q];rfl
  .simp only[Function.comp,if_neg q]
 .unfold putF at hy;obtain⟨z,hz,rfl⟩:=Ac.1 hy;by_cases q:z.at=p;.rw[if_pos q];subst q;exact aa
  .rw[if_neg q];exact h.rows z hz
theorem VK.okV{v:GValue}{k:Int}(h:VK v k):v.ok:=by have hm:=h.may;have hn:=h.n;rcases zO6 hm with⟨h1,_,h3⟩|⟨h1,_,h3⟩|⟨h1,h3⟩|⟨h1,_,h3⟩;all_goals refine⟨by rw[h1];decide,hn,?_⟩;first|(rw[h3];decide)|(unfold maxLen;omega)
theorem yc6{T:GTable}{old:List GValue}(ho:∀v∈old,v.ok):∀{sets:List GAssign}{row:List GValue},(∀x∈sets,EOk x.e)->(∀v∈row,v.ok)->(setF T old sets row).2=0->(setF T old sets row).1.length=row.length/\∀v∈(setF T old sets row).1,v.ok
 |[],row,_,hr,_=>⟨rfl,hr⟩|x::l,row,hs,hr,h=>by
  rw[setF]at h⊢;by_cases q:(evR T old x.e).2=0
  .rw[if_neg (λh=>h q)]at h⊢;have hv:=(xt7 ho (hs x sm) q).okV;have h2:=yc6 ho (sets:=l) (row:=row.set (colF T x.name).toNat (evR T old x.e).1) (λy hy=>hs y (by simp[hy])) (λv aa=>by
    rcases Ch aa with h|rfl;.exact hr v h
    .exact hv) h;rw[Eh]at h2;exact h2
  .rw[if_pos q]at h;exact absurd h q
theorem yl0{T:GTable}{st:GStmt}:∀{l acc:List Ln},∀x∈(zx3 T st acc l).1,x∈acc∨x∈l
 |[],_,_,h=>.inl h|y::l,acc,x,h=>by
  rw[zx3]at h;by_cases q:(evR T y.v st.where_).2=0
  .rw[if_neg (λh=>h q)]at h;rcases yl0 (l:=l) x h with h|h
   .by_cases t:zZ8 (evR T y.v st.where_).1=true
    .rw[if_pos t]at h;rcases Aq.1 h with h|h;.exact .inl h
     .simp at h;exact .inr (h▸Bb ..)
    .rw[if_neg t]at h;exact .inl h
   .exact .inr (B4 _ h)
  .rw[if_pos q]at h;cases h
theorem yh1{t:Int}{T:GTable}:∀x∈(metF t T st l).1,x∈l/\(zt3 t st x)=true:=λx h=>by
 unfold metF at h;have hf:x∈l.filter (zt3 t st):=by
  by_cases q:st.filtered=true
  .rw[if_pos q]at h;rcases yl0 x h with h|h;.cases h
   .exact h
  .rw[if_neg q]at h;exact h
 exact B1.1 hf
theorem xM7(l:List Ln)(p:Pl)(row:List GValue):(putF l p row).map Ln.at=l.map Ln.at:=by
 unfold putF;rw[Br];refine Bn λy _=>?_;by_cases q:y.at=p;.simp only[Function.comp,if_pos q];rfl
 .simp only[Function.comp,if_neg q]
theorem yE7(l:List Ln)(p q:Pl)(row:List GValue):atF (putF l p row) q=atF l q:=by rw[Du,atF_iff,atF_iff,xM7]
def ordP(p q:Pl):Int:=orL [cmpI p.1 q.1,cmpS p.2 q.2]
theorem yA1(p q:Pl):decide (ordP p q<0)=yZ p q:=by
 obtain⟨a,s⟩:=p;obtain⟨b,t⟩:=q;simp only[ordP,orL,cmpI,cmpS,yZ];by_cases h1:a<b;.simp[h1]
 .by_cases h2:a>b;.have h3:¬a=b:=om;simp[h1,h2,h3]
  .have h3:a=b:=om;subst h3;by_cases h4:Op.bytesLess s t=true;.simp[h4]
   .have aa:Op.bytesLess s t=false:=by simpa using h4
    by_cases h5:Op.bytesLess t s=true;.simp[aa,h5]
    .simp[aa,h5]
theorem yL6:Go.Sort.SWO λa b=>decide (ordP a b<0):=by have e:(λa b=>decide (ordP a b<0))=yZ:=funext λa=>funext λb=>yA1 a b;rw[e];refine⟨zL4,λx y z h g=>zI4 h g,λx y z h g=>?_⟩;cases q:yZ x z with |false=>rfl|true=>
  rcases zB4 x y with r|r|r;.rw[r]at h;cases h
  .subst r;rw[q]at g;cases g
  .have:=zI4 r q;rw[this]at g;cases g
theorem xN2{X:Type}{kx:X->Pl}{l:List X}(h:l.Pairwise λa b=>¬ordP (kx b) (kx a)<0)(hn:(l.map kx).Nodup):Rise (l.map kx):=by
 unfold Rise;rw[Da];rw[List.Nodup,Da]at hn;refine(h.and hn).imp λ{a b}⟨h1,h2⟩=>?_;rcases zB4 (kx a) (kx b)with r|r|r;.exact r
 .exact absurd r h2
 .rw[<-yA1]at r;exact absurd (of_decide_eq_true r) h1
theorem xd5(p q:Pl):Pure prog 94 [plV p,plV q] (.int .i64 (ordP p q)):=by have h:=or_w [cmpI p.1 q.1,cmpS p.2 q.2] (by simp[maxLen]);have h1:=yF9 p.1 q.1;have h2:=yG1 p.2 q.2;unfold ordP;generalize orL [cmpI p.1 q.1,cmpS p.2 q.2]=M at*;refine iW 0 func94 ntmps94 results94 λc hc hb=>zO ?_;simp[go_sem,plV];refine yU [(4,0),(9,0),(11,0)] 2 rfl kR kR ?_;simp[go_sem];refine pD h1 ?_;simp[go_sem];refine pD h2 ?_;simp[go_sem];refine pD h ?_;simp[go_sem];exact wR
theorem xz5(p q:Pl):Pure prog 152 [.agg (.int .i64 p.1::.str p.2::List.replicate (3-2) .u),.agg (.int .i64 q.1::.str q.2::List.replicate (3-2) .u)] (.int .i64 (ordP p q)):=by have h:=xd5 p q;rw[plV,plV]at h;show Pure prog 152 [.agg [.int .i64 p.1,.str p.2,.u],.agg [.int .i64 q.1,.str q.2,.u]] (.int .i64 (ordP p q));refine iW 0 func152 ntmps152 results152 λc hc hb=>zO ?_;simp[go_sem];refine pC h ?_;simp[go_sem];exact wR
def zf7(seen:List Nat)(W:List (Pl×α))(bs:List Nat):List ((Pl×α)×Nat):=(W.zip bs).filter λp=>!seen.contains p.2
theorem xb4{α:Type}{g:α->V}{seen:List Nat}:∀{W:List (Pl×α)}{bs:List Nat},zI3 seen (kvE g W) bs=(zf7 seen W bs).map λp=>(plV p.1.1,g p.1.2,p.2)
 |[],bs=>by cases bs<;>rfl|e::W,[]=>rfl|e::W,b::bs=>by
  rw[kvE,zI3,xb4];unfold zf7;rw[Ei,Dq];cases h:seen.contains b;.simp only[Bj,if_false,Bool.not_false,if_true,Al]
  .simp only[if_true,Bool.not_true,Bj,if_false]
theorem yw4{α:Type}{g:α->V}:∀{W:List (Pl×α)}{bs:List Nat}{p:(Pl×α)×Nat},bs.Nodup->p∈W.zip bs->zX9 p.2 (kvE g W) bs=some (plV p.1.1,g p.1.2)
 |[],_,_,_,h=>by simp at h|e::W,[],_,_,h=>by simp at h|e::W,b::bs,p,hn,h=>by
  rw[Cc]at hn;rw[kvE,zX9];rw[Ei]at h;rcases Ag.1 h with rfl|h;.rw[if_pos rfl]
  .have:b≠p.2:=λq=>hn.1 (q▸(List.of_mem_zip h).2);rw[if_neg this];exact yw4 hn.2 h
theorem xg3{α:Type}:∀{W:List α}{bs:List Nat},bs.Nodup->((W.zip bs).map (·.2)).Nodup
 |[],_,_=>by simp|e::W,[],_=>by simp|e::W,b::bs,h=>by rw[Cc]at h;rw[Ei,Al,Cc];refine⟨λq=>?_,xg3 h.2⟩;obtain⟨p,hp,rfl⟩:=Ac.1 q;exact h.1 (List.of_mem_zip hp).2
theorem yO8{α:Type}{p:α×Nat}:∀{L:List (α×Nat)},(L.map (·.2)).Nodup->p∈L->L.Perm (p::L.filter λq=>!decide (q.2=p.2))
 |[],_,h=>by cases h|x::L,hn,h=>by
  rw[Al,Cc]at hn;rcases Ag.1 h with rfl|h
  .have:(p::L).filter (λq=>!decide (q.2=p.2))=L:=by
    rw[Dq,if_neg sm];exact Dw.2 λq hq=>by have:q.2≠p.2:=λe=>hn.1 (Ac.2 ⟨q,hq,e⟩);simp[this]
   rw[this]
  .have:x.2≠p.2:=λe=>hn.1 (Ac.2 ⟨p,h,e.symm⟩);rw[Dq,if_pos (by simp[this])];exact((yO8 hn.2 h).cons x).trans (List.Perm.swap ..)
theorem zE4(hn:bs.Nodup){p:(Pl×α)×Nat}(hp:p∈zf7 seen W bs):(zf7 seen W bs).Perm (p::zf7 (seen++[p.2]) W bs):=by
 have h1:((zf7 seen W bs).map (·.2)).Nodup:=List.Nodup.sublist ((C4).map _) (xg3 hn);refine(yO8 h1 hp).trans (List.Perm.of_eq ?_);congr 1;unfold zf7;rw[List.filter_filter];refine Em λq _=>?_;by_cases e:q.2=p.2;.simp[e]
 .simp[e]
theorem zL3{p:(Pl×α)×Nat}(hp:p∈zf7 seen W bs):p∈W.zip bs:=(B1.1 hp).1
theorem xL1(h:bs.length=W.length):(zf7 [] W bs).map (·.1)=W:=by unfold zf7;rw[Dw.2 λq _=>sm,List.map_fst_zip om]
def MetD(seen:List Nat)(W:List (Pl×α))(bs:List Nat)(D:List (Pl×α)):Prop:=(D++(zf7 seen W bs).map (·.1)).Perm W
theorem MetD.start(h:bs.length=W.length):MetD [] W bs []:=by unfold MetD;rw[xL1 h];exact List.Perm.refl _
theorem MetD.next{D:List (Pl×α)}(hn:bs.Nodup)(h:MetD seen W bs D){p:(Pl×α)×Nat}(hp:p∈zf7 seen W bs):MetD (seen++[p.2]) W bs (D++[p.1]):=by unfold MetD at h⊢;refine List.Perm.trans ?_ h;rw[Bp];have h1:=(zE4 hn hp).map λx:(Pl×α)×Nat=>x.1;rw[Al]at h1;exact List.Perm.append_left _ h1.symm
theorem MetD.done{D:List (Pl×α)}(h:MetD seen W bs D)(h0:zf7 seen W bs=[]):D.Perm W:=by unfold MetD at h;rw[h0]at h;simpa using h
theorem zH9{α:Type}{p q:α->Bool}:∀{l:List α},(∀x∈l,p x=true->q x=false)->(l.filter p++l.filter q).Perm (l.filter λx=>p x||q x)
 |[],_=>List.Perm.refl _|x::l,h=>by have ih:=zH9 (l:=l) λy hy=>h y (B4 _ hy);have hx:=h x (Bb ..);simp only[Dq];cases hp:p x with|true=>simp only[hx hp,De,if_true,Bj,if_false,Bo];exact ih.cons x|false=>cases hq:q x with |true=>simp only[C8,if_true,Bj,if_false];exact Dx.trans (ih.cons x)|false=>simp only[C8,Bj,if_false];exact ih
theorem zQ8{l:List Ln}{c:Ln->Bool}{rg:Int->Int}:∀{G:List Int},(G.map rg).Nodup->(G.flatMap λg=>l.filter λx=>(rg g==x.r)&&c x).Perm (l.filter λx=>(G.any λg=>rg g==x.r)&&c x)
 |[],_=>by simp|g::G,hn=>by
  rw[Al,Cc]at hn;rw[Bm];refine(List.Perm.append_left _ (zQ8 (l:=l) (c:=c) hn.2)).trans ((zH9 λx _ hp=>?_).trans (List.Perm.of_eq (Em λx _=>?_)))
  .simp only[A6,beq_iff_eq]at hp;have:(G.any λg=>rg g==x.r)=false:=by cases q:G.any λg=>rg g==x.r with |false=>rfl|true=>obtain⟨g',h1,h2⟩:=D6.1 q;exact absurd (Ac.2 ⟨g',h1,(beq_iff_eq.1 h2).trans hp.1.symm⟩) hn.1
   rw[this,C7]
  .rw[D8,Bool.and_or_distrib_right]
theorem xn4{m:List Ln}(hr:Rise (l.map Ln.at))(hp:m.Perm l)(hs:m.Pairwise λa b=>yZ b.at a.at=false):m=l:=by
 have aa:(m.map Ln.at).Nodup:=(hp.map Ln.at).nodup_iff.2 hr.nodup;have h1:l.Pairwise λa b=>yZ a.at b.at=true:=Da.1 hr;have h2:m.Pairwise λa b=>yZ a.at b.at=true:=by
  refine(hs.and (Da.1 aa)).imp λ{a b}h=>?_;rcases zB4 a.at b.at with q|q|q;.exact q
  .exact absurd q h.2
  .rw[h.1]at q;cases q
 exact hp.eq_of_pairwise (λa b _ _ h g=>by rw[yg4 h]at g;cases g) h2 h1
theorem zE6(c:UInt8):UInt8.ofNat c.toNat=c:=sm
theorem zZ6:∀(l:List UInt8)(i v u n:Nat),xF l i v=(u,n,0)->∃w k,u=v+w*128^i/\n=i+k/\l.take k=varF w/\k<=l.length/\(0<i->0<w)
 |[],i,v,u,n,h=>by simp[xF]at h|c::rest,i,v,u,n,h=>by
  rw[xF]at h;split at h;.simp at h
  .split at h
   .rename_i h2;split at h;.simp at h
    .rename_i h3;simp only[Prod.mk.injEq]at h;obtain⟨h4,h5,_⟩:=h;refine⟨c.toNat,1,?_,h5.symm,?_,sm,λhi=>?_⟩;.rw[<-h4,Cn h2]
     .rw[zT1 h2,zE6];rfl
     .exact Nat.pos_of_ne_zero λq=>h3 ⟨q,hi⟩
   .rename_i h2;obtain⟨w,k,h4,h5,h6,h7,h8⟩:=zZ6 rest (i+1) _ u n h;have hw:=h8 (Nat.succ_pos _);have hc:=c.toNat_lt;have e1:(c.toNat%128+128*w)%128=c.toNat%128:=om;have e2:(c.toNat%128+128*w)/128=w:=om;refine⟨c.toNat%128+128*w,k+1,?_,om,?_,by simp;omega,λ_=>om⟩;.rw[h4,Eb,Am,By,Bz (128^i) 128,<-Eg,Bz w 128]
    .rw[yc9 om,e1,e2,C1,h6];have:c.toNat%128+128=c.toNat:=om;rw[this,zE6]
theorem xQ6(u:Nat):zigF (zagF u)=u:=by unfold zigF zagF;split<;>split<;>omega
theorem yW8{l:List UInt8}{u n:Nat}(h:xF l 0 0=(u,n,0)):l.take n=varF u/\n<=l.length:=by obtain⟨w,k,h1,h2,h3,h4,_⟩:=zZ6 l 0 0 u n h;simp at h1 h2;subst h1;subst h2;exact⟨h3,h4⟩
theorem yO5:∀{b:List UInt8},(zf4 b).e=0->b.take (zf4 b).n=zb6 (zf4 b).v/\(zf4 b).n<=b.length/\0<(zf4 b).n
 |[],h=>by simp[zf4]at h|c::rest,h=>by
  have hc:=zE6 c;rw[zf4]at h⊢;revert h;unfold zc4;split;.rename_i h0;intro _;refine⟨?_,sm,sm⟩;rw[h0]at hc;simp[zb6,mayF,v0,<-hc]
  .split;.rename_i _ h1;rw[h1]at hc;unfold za1;cases rest with |nil=>intro h;simp at h|cons d rest=>
     simp only[Ah,List.getD_cons_succ,List.getD_cons_zero];rw[if_neg om];split;.intro h;simp at h
     .intro _;rename_i hd;refine⟨?_,sm,sm⟩;have hm:mayF ⟨1,(d.toNat:Int),[]⟩=true:=by simp only[mayF];have:d.toNat=0∨d.toNat=1:=om;rcases this with q|q<;>rw[q]<;>decide
      unfold zb6;rw[if_pos hm];simp[<-hc]
   .split
    .rename_i _ _ h2;rw[h2]at hc;obtain⟨⟨u,n,e⟩,hg⟩:∃g,xF rest 0 0=g:=⟨_,rfl⟩;rw[hg];simp only;split;.rename_i he;intro h;exact absurd h he
     .rename_i he;intro _;have he:e=0:=Classical.not_not.1 he;rw[he]at hg;obtain⟨h3,h4⟩:=yW8 hg;refine⟨?_,by simp;omega,by simp;omega⟩;unfold zb6;rw[if_pos (by simp[mayF]),E8 1 n,C1,h3];simp only;simp[xQ6,<-hc]
    .split
     .rename_i _ _ _ h3;rw[h3]at hc;obtain⟨⟨u,n,e⟩,hg⟩:∃g,xF rest 0 0=g:=⟨_,rfl⟩;unfold wS yD;rw[hg];by_cases he:e=0;rotate_left;.intro h;simp[he]at h
      subst he;by_cases h5:1048576<u;.intro h;simp[h5]at h
      by_cases h6:rest.length-n<u;.intro h;simp[h5,h6]at h
      obtain⟨h7,h8⟩:=yW8 hg;have aa:((rest.take (n+u)).drop n).length=u:=by rw[E9,Cd];omega
      simp only[h5,h6,if_false,ne_eq,not_true_eq_false,aa];by_cases hl:64<u;.intro h;simp[hl]at h
      rw[if_neg hl];intro _;refine⟨?_,by simp;omega,by simp;omega⟩;have hm:mayF ⟨3,0,(rest.take (n+u)).drop n⟩=true:=by simp only[mayF,aa];simp;omega
      unfold zb6;rw[if_pos hm];simp only;rw[if_neg dc,if_neg dc,if_pos True.intro,aa,<-h7];rw[E8 1 (n+u),C1];show c::_=UInt8.ofNat 3::_;rw[hc];congr 1;conv=>lhs;rw[<-Bq n (rest.take (n+u))]
      rw[En,Dl om]
     .intro h;simp at h
theorem yj1:∀(n:Nat)(b:List UInt8)(l:List GValue),rowG n b=some l->l.flatMap zb6=b/\l.length=n
 |0,b,l,h=>by
  rw[rowG]at h;split at h;.rename_i hb;cases h;exact⟨hb.symm,rfl⟩
  .cases h|n+1,b,l,h=>by
  rw[rowG]at h;split at h;.rename_i he;rw[Ba]at h;obtain⟨l',h1,rfl⟩:=h;obtain⟨h2,h3⟩:=yj1 n _ l' h1;obtain⟨h4,_,_⟩:=yO5 he;refine⟨?_,by simp[h3]⟩;rw[Bm,h2,<-h4,Bq]
  .cases h
theorem yV5{nc:Nat}{data:List UInt8}(h:(R.rowC nc data).2=0):yN (R.rowC nc data).1=data:=by
 revert h;unfold R.rowC;split;.rename_i h0;intro h;obtain⟨⟨u,n,e⟩,hg⟩:∃g,xF data 0 0=g:=⟨_,rfl⟩;rw[hg]at h h0⊢;obtain⟨h1,h2⟩:=h0;simp only at h1 h2 h⊢;rw[h1]at hg;subst h2;obtain⟨h3,_⟩:=yW8 hg;cases hr:rowG u (data.drop n)with|none=>rw[hr]at h;simp[rowR]at h|some l=>obtain⟨h5,h6⟩:=yj1 _ _ _ hr;show yN l=data;unfold yN zG1;rw[Df,h6,h5,<-h3,Bq]
 .intro h;simp at h
theorem LnOk.read(h:LnOk x):rowF tabsS (ofS x.r).1 (yN x.v)=(x.v,0):=by obtain⟨tn,T,e,hT,hm⟩:=h.tab;obtain⟨ab,aa⟩:=A1.1 hT;have hL:=zB5 ((by decide:∀T∈tabsS,T.cols.length<=20) T (B7 hT)) h.ok hm;rw[e];unfold rowF;rw[dif_pos ⟨om,om⟩];simp only[Az,aa];exact xB6 hm hL
def lnE(t:Int)(e:Pl×List UInt8):Ln:=⟨e.1.1,e.1.2,(rowF tabsS t e.2).1⟩
def inE(rng:Int)(lo hi:List UInt8)(e:Pl×List UInt8):Bool:=(e.1.1==rng)&&(!Op.bytesLess e.1.2 lo&&Op.bytesLess e.1.2 hi)
def inL(rng:Int)(lo hi:List UInt8)(x:Ln):Bool:=(rng==x.r)&&(!Op.bytesLess x.k lo&&Op.bytesLess x.k hi)
theorem yM4(h:NowOk b l){D:List (Pl×List UInt8)}(hD:D.Perm b.W){t rng:Int}(hr:(ofS rng).1=t)(lo hi:List UInt8):((D.filter (inE rng lo hi)).map (lnE t)).Perm (l.filter (inL rng lo hi)):=by
 have h1:=((hD.trans h.perm).filter (inE rng lo hi)).map (lnE t);refine h1.trans (List.Perm.of_eq ?_);rw[List.filter_map,Br];have e1:l.filter (inE rng lo hi∘λx=>(x.at,yN x.v))=l.filter (inL rng lo hi):=Em λx _=>by show((x.r==rng)&&_)=((rng==x.r)&&_);rw[Bool.beq_comm];rfl
 rw[e1];refine(Bn λx hx=>?_).trans (List.map_id _);obtain⟨ad,aa⟩:=B1.1 hx;unfold inL at aa;rw[A6,beq_iff_eq]at aa;have ab:=(h.rows x ad).read;rw[<-aa.1,hr]at ab;show lnE t (x.at,yN x.v)=x;unfold lnE;rw[ab];rfl
theorem yV2(j:Nat)(hj:j<3)(st:GStmt):((zc3 (j:Int) st).map λg=>(wP j g).1).Nodup:=by match j,hj with |0,_=>have e:zc3 ((0:Nat):Int) st=cutR (zt4 st) [0,1]:=rfl;rw[e,yw3];exact List.Nodup.sublist ((C4).map _) (by decide:([0,1].map λg=>(wP ((0:Nat):Int) g).1).Nodup)|1,_=>exact(by decide:([-1].map λg=>(wP ((1:Nat):Int) g).1).Nodup)|2,_=>exact(by decide:([1].map λg=>(wP ((2:Nat):Int) g).1).Nodup)
theorem xe0(j:Nat)(hj:j<3){g:Int}(hg:g∈zc3 (j:Int) st):(g=-1∨g=0∨g=1)/\(wP j g).2=0/\ofS (wP j g).1=((j:Int),g,0):=by match j,hj with
 |0,_=>
  have e:zc3 ((0:Nat):Int) st=cutR (zt4 st) [0,1]:=rfl;rw[e,yw3]at hg;have:=(B1.1 hg).1;simp at this;rcases this with rfl|rfl;.exact⟨.inr (.inl rfl),rfl,rfl⟩
  .exact⟨.inr (.inr rfl),rfl,rfl⟩|1,_=>have e:zc3 ((1:Nat):Int) st=[-1]:=rfl;rw[e]at hg;simp at hg;subst hg;exact⟨.inl rfl,rfl,rfl⟩|2,_=>have e:zc3 ((2:Nat):Int) st=[1]:=rfl;rw[e]at hg;simp at hg;subst hg;exact⟨.inr (.inr rfl),rfl,rfl⟩
theorem yA9(j:Nat)(hj:j<3)(st:GStmt)(l:List Ln):((zc3 (j:Int) st).flatMap λg=>l.filter (inL (wP j g).1 (zq3 tabsS j st).1 (zq3 tabsS j st).2)).Perm (l.filter (zt3 j st)):=zQ8 (l:=l) (c:=λx=>!Op.bytesLess x.k (zq3 tabsS j st).1&&Op.bytesLess x.k (zq3 tabsS j st).2) (rg:=λg=>(wP j g).1) (yV2 j hj st)
theorem yT4{j:Nat}{m:List Ln}(hr:Rise (l.map Ln.at))(hp:m.Perm (l.filter (zt3 j st)))(hs:m.Pairwise λa b=>¬ordP b.at a.at<0):m=l.filter (zt3 j st):=by refine xn4 (List.Pairwise.sublist ((C4).map _) hr) hp (hs.imp λ{a b}h=>?_);rw[<-yA1];exact decide_eq_false h
def zt2(l:List Wr):Prop:=l.Pairwise λa b=>yZ a.p b.p=true
theorem zV5(l:List Wr)(x:Wr):(insW l x).Perm (x::l):=by unfold insW;refine Dx.trans (List.Perm.cons _ (List.Perm.of_eq ?_));exact Cr
theorem zX8{x:Wr}:∀{l:List Wr},zt2 l->(∀y∈l,y.p≠x.p)->∀y∈l.dropWhile (λy=>yZ y.p x.p),yZ x.p y.p=true
 |[],_,_,y,hy=>by simp at hy|z::l,hr,hn,y,hy=>by
  rw[zt2,Cv]at hr;rw[List.dropWhile_cons]at hy;by_cases q:yZ z.p x.p=true;.rw[if_pos q]at hy;exact zX8 hr.2 (λy hy=>hn y (B4 _ hy)) y hy
  .rw[if_neg q]at hy;have hz:yZ x.p z.p=true:=by
    rcases zB4 z.p x.p with r|r|r;.exact absurd r q
    .exact absurd r (hn z (Bb ..))
    .exact r
   rcases Ag.1 hy with rfl|hy;.exact hz
   .exact zI4 hz (hr.1 _ hy)
theorem xi1{l:List Wr}{x:Wr}(h:zt2 l)(hn:∀y∈l,y.p≠x.p):zt2 (insW l x):=by
 have hd:=zX8 h hn;have ht:∀y∈l.takeWhile (λy=>yZ y.p x.p),yZ y.p x.p=true:=zA1;unfold zt2 at h;rw[<-Cr (p:=λy:Wr=>yZ y.p x.p) (l:=l),C9]at h;unfold insW zt2;rw[C9,Cv];refine⟨h.1,⟨hd,h.2.1⟩,λy hy z hz=>?_⟩;rcases Ag.1 hz with rfl|hz;.exact ht y hy
 .exact h.2.2 y hy z hz
theorem xu4{f:Ln->Wr}(hf:∀x,(f x).p=x.at):∀{m:List Ln}{l:List Wr},zt2 l->(l.map (·.p)++m.map Ln.at).Nodup->zt2 (m.foldl (λl x=>insW l (f x)) l)/\(m.foldl (λl x=>insW l (f x)) l).Perm (l++m.map f)
 |[],l,h,_=>⟨h,sm⟩|x::m,l,h,hn=>by
  have hx:∀y∈l,y.p≠(f x).p:=λy hy e=>by rw[Dj]at hn;exact hn.2.2 y.p (Ac.2 ⟨y,hy,rfl⟩) x.at sm (by rw[e,hf])
  have h2:((insW l (f x)).map (·.p)++m.map Ln.at).Nodup:=by
   have hp:((insW l (f x)).map (·.p)++m.map Ln.at).Perm (l.map (·.p)++(x::m).map Ln.at):=by refine(((zV5 l (f x)).map (·.p)).append_right _).trans ?_;rw[Al,Al,hf];exact Dx.symm
   exact hp.nodup_iff.2 hn
  obtain⟨h3,h4⟩:=xu4 hf (m:=m) (xi1 h hx) h2;refine⟨h3,h4.trans ?_⟩;refine((zV5 l (f x)).append_right _).trans ?_;rw[Al];exact Dx.symm
theorem yi9{l m:List Wr}(h:zt2 l)(g:zt2 m)(e:∀x,x∈l↔x∈m):l=m:=by
 have nd:∀{l:List Wr},zt2 l->l.Nodup:=λh=>h.imp λ{a b}aa q=>by subst q;rw[zL4]at aa;cases aa
 exact((List.perm_ext_iff_of_nodup (nd h) (nd g)).2 (λx=>e x)).eq_of_pairwise (λa b _ _ h g=>by rw[yg4 h]at g;cases g) h g
def isW(was now:List Ln)(w:Wr):Prop:=(w.drop=true/\w.data=[]/\(∃x∈was,x.at=w.p)/\atF now w.p=false)∨(w.drop=false/\∃x∈now,x.at=w.p/\yN x.v=w.data/\∀y∈was,y.at=x.at->yN y.v≠yN x.v)
theorem ya9{was now:List Ln}(hw:Rise (was.map Ln.at))(hn:Rise (now.map Ln.at)):zt2 (chgF was now)/\∀w,w∈chgF was now↔isW was now w:=by
 obtain⟨h1,h2⟩:=xu4 (f:=λx=>⟨x.at,true,[]⟩) (λ_=>rfl) (m:=was.filter λx=>!atF now x.at) (l:=[]) List.Pairwise.nil (by simp only[Bs,Cu];exact List.Nodup.sublist ((C4).map _) hw.nodup);rw[Cu]at h2;obtain⟨h3,h4⟩:=xu4 (f:=λx=>⟨x.at,false,yN x.v⟩) (λ_=>rfl) (m:=now.filter λx=>!(was.any λy=>decide (y.at=x.at)&&decide (yN y.v=yN x.v))) h1 (by have hp:=(h2.map (·.p)).append_right ((now.filter λx=>!(was.any λy=>decide (y.at=x.at)&&decide (yN y.v=yN x.v))).map Ln.at);refine hp.nodup_iff.2 ?_;rw[Br,Dj];refine⟨List.Nodup.sublist ((C4).map _) hw.nodup,List.Nodup.sublist ((C4).map _) hn.nodup,λa ha b hb e=>?_⟩;obtain⟨x,hx,rfl⟩:=Ac.1 ha;obtain⟨y,hy,rfl⟩:=Ac.1 hb;have aa:=(B1.1 hx).2;have:atF now x.at=true:=atF_iff.2 (Ac.2 ⟨y,(B1.1 hy).1,e.symm⟩);rw[this]at aa;cases aa);refine⟨h3,λw=>?_⟩;have h5:=(h4.trans (h2.append_right _)).mem_iff (a:=w);rw[Aq,Ac,Ac]at h5;refine h5.trans (or_congr ⟨?_,?_⟩ ⟨?_,?_⟩);.rintro⟨x,hx,rfl⟩;obtain⟨ab,aa⟩:=B1.1 hx;exact⟨rfl,rfl,⟨x,ab,rfl⟩,by simpa using aa⟩
 .rintro⟨e1,e2,⟨x,hx,e3⟩,e4⟩;refine⟨x,B1.2 ⟨hx,by rw[e3,e4];rfl⟩,?_⟩;obtain⟨p,d,b⟩:=w;simp only at e1 e2 e3;rw[e1,e2,e3]
 .rintro⟨x,hx,rfl⟩;obtain⟨ab,aa⟩:=B1.1 hx;refine⟨rfl,x,ab,rfl,rfl,λy hy e1 e2=>?_⟩;have:(was.any λy=>decide (y.at=x.at)&&decide (yN y.v=yN x.v))=true:=D6.2 ⟨y,hy,by simp[e1,e2]⟩;rw[this]at aa;cases aa
 .rintro⟨e1,x,hx,e2,e3,e4⟩;refine⟨x,B1.2 ⟨hx,?_⟩,?_⟩;.cases q:was.any λy=>decide (y.at=x.at)&&decide (yN y.v=yN x.v)with |false=>rfl|true=>obtain⟨y,hy,h⟩:=D6.1 q;simp only[A6,decide_eq_true_eq]at h;exact absurd h.2 (e4 y hy h.1)
  .obtain⟨p,d,b⟩:=w;simp only at e1 e2 e3;rw[e1,e2,e3]
def grpS(out:List (Int×List Wr))(w:Wr):List (Int×List Wr):=match out.getLast? with |some q=>if q.1=w.p.1then out.dropLast++[(q.1,q.2++[w])]else out++[(w.p.1,[w])]|none=>[(w.p.1,[w])]
def grpF(l:List Wr):List (Int×List Wr):=l.foldl grpS []
theorem yI2{r:Int}:∀{B C:List Wr}{out:List (Int×List Wr)},(∀w∈B,w.p.1=r)->B.foldl grpS (out++[(r,C)])=out++[(r,C++B)]
 |[],C,out,_=>by simp|w::B,C,out,h=>by
  have hw:=h w (Bb ..);have e:grpS (out++[(r,C)]) w=out++[(r,C++[w])]:=by unfold grpS;rw[List.getLast?_append];simp[hw]
  rw[Bf,e,yI2 λy hy=>h y (B4 _ hy)];simp
theorem zL0{B:List Wr}{out:List (Int×List Wr)}(h:∀w∈B,w.p.1=r)(ho:∀q∈out,q.1≠r):B.foldl grpS out=out++(if B=[]then[]else[(r,B)]):=by cases B with |nil=>simp|cons w B=>
  have hw:=h w (Bb ..);have e:grpS out w=out++[(r,[w])]:=by unfold grpS;cases q:out.getLast? with |none=>rw[List.getLast?_eq_none_iff.1 q,hw];rfl|some p=>simp only;have:p∈out:=List.mem_of_getLast? q;rw[if_neg (by rw[hw];exact ho p this),hw]
  rw[Bf,e,yI2 λy hy=>h y (B4 _ hy)];simp
theorem yM7{l:List Wr}(h:zt2 l)(hr:∀w∈l,w.p.1=0∨w.p.1=1∨w.p.1=2∨w.p.1=3):l=l.filter (λw=>w.p.1==0)++(l.filter (λw=>w.p.1==1)++(l.filter (λw=>w.p.1==2)++l.filter (λw=>w.p.1==3))):=by
 have hl:∀{a b:Wr},a.p.1<b.p.1->yZ a.p b.p=true:=λh=>by unfold yZ;simp[h]
 refine yi9 h ?_ λw=>?_
 .unfold zt2 at h⊢;rw[C9,C9,C9];refine⟨h.filter _,⟨h.filter _,⟨h.filter _,h.filter _,?_⟩,?_⟩,?_⟩;.intro a ha b hb;have h1:=(B1.1 ha).2;have h2:=(B1.1 hb).2;simp at h1 h2;exact hl om
  .intro a ha b hb;have h1:=(B1.1 ha).2;rw[Aq]at hb;rcases hb with hb|hb<;>have h2:=(B1.1 hb).2<;>simp at h1 h2<;>exact hl om
  .intro a ha b hb;have h1:=(B1.1 ha).2;rw[Aq,Aq]at hb;rcases hb with hb|hb|hb<;>have h2:=(B1.1 hb).2<;>simp at h1 h2<;>exact hl om
 .simp only[Aq,B1];constructor
  .intro hw;rcases hr w hw with q|q|q|q;.exact .inl ⟨hw,by simp[q]⟩
   .exact .inr (.inl ⟨hw,by simp[q]⟩)
   .exact .inr (.inr (.inl ⟨hw,by simp[q]⟩))
   .exact .inr (.inr (.inr ⟨hw,by simp[q]⟩))
  .rintro(h|h|h|h)<;>exact h.1
def rngW(l:List Wr)(r:Int):List (Int×List Wr):=if l.filter (λw=>w.p.1==r)=[]then[]else[(r,l.filter (λw=>w.p.1==r))]
theorem zl3{l:List Wr}:∀q∈rngW l r,q.1=r:=λq hq=>by
 unfold rngW at hq;split at hq;.cases hq
 .simp at hq;rw[hq]
theorem yI1{l:List Wr}(h:zt2 l)(hr:∀w∈l,w.p.1=0∨w.p.1=1∨w.p.1=2∨w.p.1=3):grpF l=rngW l 0++(rngW l 1++(rngW l 2++rngW l 3)):=by
 have hb:∀r:Int,∀w∈l.filter (λw=>w.p.1==r),w.p.1=r:=λr w hw=>by simpa using(B1.1 hw).2
 have e:=yM7 h hr;unfold grpF;rw[e,Cq,Cq,Cq,zL0 (hb 0) (λq hq=>by cases hq)];have e0:∀r,(if l.filter (λw=>w.p.1==r)=[]then[]else[(r,l.filter (λw=>w.p.1==r))])=rngW l r:=λ_=>rfl;rw[<-e,e0,Cu,zL0 (hb 1) (λq hq=>by rw[zl3 q hq];decide),e0,zL0 (hb 2) (λq hq=>by rcases Aq.1 hq with hq|hq<;>rw[zl3 q hq]<;>decide),e0,zL0 (hb 3) (λq hq=>by
   rcases Aq.1 hq with hq|hq;.rcases Aq.1 hq with hq|hq<;>rw[zl3 q hq]<;>decide
   .rw[zl3 q hq];decide),e0];simp only[Bp]
end Go.Proofs.YtefbicjgbaaieaaGreat
