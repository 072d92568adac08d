/-
  Rows whose cells turn: they stay rows; used by the walk of exec's update.
  Conditions: as each theorem states them.
-/
import Derived.Test.YtefbicjgbaaieaaGreatKAT
import Derived.Test.YtefbicjgbaaieaaGreatKAI
import Derived.Test.YtefbicjgbaaieaaGreatKAP
import Derived.Test.YtefbicjgbaaieaaGreatKAO
set_option maxHeartbeats 8000000
namespace Go.Proofs.YtefbicjgbaaieaaGreat
open Go Go.Vx R Go.Proofs.Tryz
set_option maxRecDepth 100000
theorem xu5: ∀a b:List UInt8,Op.bytesLess a b=true∨a=b∨Op.bytesLess b a=true
 | [],[]=> .inr (.inl rfl)
 | [],_::_=> .inl rfl
 |_::_,[]=> .inr (.inr rfl)
 |x::a,y::b=>by
  rw[yb4,yb4]
  by_cases q:x.toNat<y.toNat
  .rw[if_pos q];exact .inl rfl
  by_cases q2:y.toNat<x.toNat
  .rw[if_neg q,if_pos q2,if_pos q2];exact .inr (.inr rfl)
  rw[if_neg q,if_neg q2,if_neg q2,if_neg q]
  have e:x=y:=Ev.1 om
  rcases xu5 a b with h|h|h
  .exact .inl h
  .exact .inr (.inl (by rw[e,h]))
  .exact .inr (.inr h)
structure UOk (U:US):Prop where
 asc:(U.map (·.1)).Pairwise (· < ·)
 spans: ∀y∈U,y.2≠ []/\y.2.Nodup/\ ∀x∈y.2,Op.bytesLess x.lo x.hi=true
def Has (U:US) (rng:Int) (x:GSpan):Prop:= ∃y∈U,y.1=rng/\x∈y.2
theorem xk9 {U:US} (h:UOk U) (rng:Int) (x:GSpan) (hx:Op.bytesLess x.lo x.hi=true):
  UOk (addF rng x U)/\Has (addF rng x U) rng x/\(∀r z,Has U r z->Has (addF rng x U) r z)/\(Has U rng x->addF rng x U=U):=by
 obtain⟨k,hk⟩:=eX (lowF (U.map (·.1)) rng)
 obtain⟨aw,ao,aq,aa⟩:=yt3 h.asc hk
 cases af:(U.map (·.1)).contains rng with
 |true=>
  rw[af]at aa
  have ab:k<U.length:=by
   split at aa
   .rename_i h1;simpa using h1
   .cases aa
  rw[dif_pos (by simpa using ab)]at aa
  obtain⟨⟨r0,sp⟩,hU⟩: ∃y,U[k]=y:=⟨_,rfl⟩
  have ar:r0=rng:=by
   have:(U.map (·.1))[k]'(by simpa using ab)=r0:=by rw[D7,hU]
   rw[this]at aa
   simpa using aa
  subst ar
  have ai:U[k]? =some (r0,sp):=by rw[A0 ab,hU]
  have ag:(r0,sp)∈U:=hU▸Aa ab
  have aj:=h.spans _ ag
  have uniq: ∀y∈U,y.1=r0->y=(r0,sp):=fun y hy hr=>by
   obtain⟨j,hj,rfl⟩:=Dn hy
   have ha:=Dq.1 h.asc
   rcases Br j k with q|q|q
   .have:=ha j k (by simpa using hj) (by simpa using ab) q
    rw[D7,D7,hr,hU]at this
    exact absurd this (Int.lt_irrefl _)
   .subst q;exact hU
   .have:=ha k j (by simpa using ab) (by simpa using hj) q
    rw[D7,D7,hr,hU]at this
    exact absurd this (Int.lt_irrefl _)
  cases hc:sp.contains x with
  |true=>
   have e:=yp9 hk af ai hc
   rw[e]
   exact⟨h,⟨_,ag,rfl,by simpa using hc⟩,fun _ _ h=>h,fun _=>rfl⟩
  |false=>
   have e:=yG1 hk af ai hc
   have ak:x∉sp:=by simpa using hc
   rw[e]
   refine⟨⟨?_,fun y hy=> ?_⟩,⟨(r0,sp++ [x]),List.mem_set ab _,rfl,sm⟩,fun r z hz=> ?_,fun hz=> ?_⟩
   .have:(U.set k (r0,sp++ [x])).map (·.1)=U.map (·.1):=by
     rw[E8]
     refine List.ext_getElem sm fun j h1 h2=> ?_
     rw[List.getElem_set]
     split
     .rename_i q;subst q;rw[D7,hU]
     .rfl
    rw[this];exact h.asc
   .rcases Cq hy with hy|rfl
    .exact h.spans y hy
    .refine⟨sm, ?_,fun z hz=> ?_⟩
     .simp only
      rw[Co]
      exact⟨aj.2.1,sm,fun a ha b hb=>by rw[Bl]at hb;subst hb;exact fun e=>ak (e▸ha)⟩
     .rcases Av.1 hz with hz|hz
      .exact aj.2.2 z hz
      .rw[Bl]at hz;subst hz;exact hx
   .obtain⟨y,hy,ad,ae⟩:=hz
    by_cases q:y.1=r0
    .have:=uniq y hy q
     subst this
     exact⟨(r0,sp++ [x]),List.mem_set ab _,ad,D3 _ ae⟩
    .obtain⟨j,hj,ah⟩:=Dn hy
     refine⟨y, ?_,ad,ae⟩
     have au:k≠j:=fun e=>by subst e;rw[hU]at ah;exact q (by rw[<-ah])
     have:(U.set k (r0,sp++ [x]))[j]'(by simpa using hj)=y:=by rw[List.getElem_set,if_neg au];exact ah
     exact this▸Aa _
   .obtain⟨y,hy,ad,ae⟩:=hz
    have:=uniq y hy ad
    subst this
    exact absurd ae ak
 |false=>
  have al: ∀y∈U,y.1≠rng:=fun y hy hr=>by
   have:rng∈U.map (·.1):=Ac.2 ⟨y,hy,hr⟩
   rw[<-E1,af]at this
   cases this
  have e:addF rng x U=U.take k++(rng,[x])::U.drop k:=by unfold addF;rw[if_neg (by rw[af];exact Bool.false_ne_true),hk]
  have av: ∀y∈U,y∈U.take k++(rng,[x])::U.drop k:=fun y hy=>by
   rw[<-Bf k U]at hy
   rcases Av.1 hy with hy|hy
   .exact D3 _ hy
   .exact Ea _ (An _ hy)
  have an: ∀y∈U.take k++(rng,[x])::U.drop k,y∈U∨y=(rng,[x]):=fun y hy=>by
   rcases Av.1 hy with hy|hy
   .exact .inl (Bs hy)
   .rcases Ae.1 hy with rfl|hy
    .exact .inr rfl
    .exact .inl (C6 hy)
  rw[e]
  refine⟨⟨?_,fun y hy=> ?_⟩,⟨(rng,[x]),sm,rfl,sm⟩,fun r z ⟨y,hy,ad,ae⟩=>⟨y,av y hy,ad,ae⟩,fun⟨y,hy,ad,_⟩=>absurd ad (al y hy)⟩
  .rw[Ca,Aj,List.map_take,Eu,Cd]
   refine⟨h.asc.sublist (List.take_sublist _ _),Bw.2 ⟨fun b hb=> ?_,h.asc.sublist (List.drop_sublist _ _)⟩,fun a ha b hb=> ?_⟩
   .obtain⟨j,hj,rfl⟩:=Dn hb
    rw[List.getElem_drop]
    have h1:=aq (k+j) (by rw[De]at hj;omega) om
    have h2:(U.map (·.1))[k+j]'(by rw[De]at hj;omega)≠rng:=fun e=>by
     rw[D7]at e
     exact al _ (Aa _) e
    show rng<_
    omega
   .obtain⟨j,hj,rfl⟩:=Dn ha
    rw[Bi]at hj
    have h1:=ao j om om
    rw[Eo]
    rcases Ae.1 hb with rfl|hb
    .exact h1
    .obtain⟨i,hi,rfl⟩:=Dn hb
     rw[De]at hi
     rw[List.getElem_drop]
     exact Dq.1 h.asc j (k+i) om om om
  .rcases an y hy with hy|rfl
   .exact h.spans y hy
   .exact⟨sm,sm,fun z hz=>by rw[Bl]at hz;subst hz;exact hx⟩
def zi9 (ps:List (Int×GSpan)) (U:US):US:=ps.foldl (fun U p=>zq9 p.1 p.2 U) U
def ye9 (x:GSpan):Bool:=Op.bytesLess x.hi x.lo||x.hi==x.lo
theorem yW2 {U:US} (h:UOk U) (rng:Int) (x:GSpan):
  UOk (zq9 rng x U)/\(ye9 x=true∨Has (zq9 rng x U) rng x)/\(∀r z,Has U r z->Has (zq9 rng x U) r z)/\(ye9 x=true∨Has U rng x->zq9 rng x U=U):=by
 unfold zq9
 cases q:ye9 x with
 |true=>
  have q':(Op.bytesLess x.hi x.lo||x.hi==x.lo)=true:=q
  rw[if_pos q']
  exact⟨h,.inl rfl,fun _ _ h=>h,fun _=>rfl⟩
 |false=>
  have q':(Op.bytesLess x.hi x.lo||x.hi==x.lo)=false:=q
  rw[if_neg (by rw[q'];exact Bool.false_ne_true)]
  have hx:Op.bytesLess x.lo x.hi=true:=by
   rw[Bool.or_eq_false_iff]at q'
   rcases xu5 x.lo x.hi with h|h|h
   .exact h
   .rw[h]at q';simp at q'
   .rw[h]at q';simp at q'
  obtain⟨h1,h2,h3,h4⟩:=xk9 h rng x hx
  exact⟨h1,.inr h2,h3,fun h=>h4 (h.resolve_left sm)⟩
theorem zU6: ∀(ps:List (Int×GSpan)) {U:US},UOk U->UOk (zi9 ps U)/\(∀p∈ps,ye9 p.2=true∨Has (zi9 ps U) p.1 p.2)/\(∀r z,Has U r z->Has (zi9 ps U) r z)
 | [],_,h=>⟨h,fun p hp=>(by cases hp),fun _ _ h=>h⟩
 |p::ps,U,h=>by
  obtain⟨h1,h2,h3,_⟩:=yW2 h p.1 p.2
  obtain⟨g1,g2,g3⟩:=zU6 ps h1
  refine⟨g1,fun q hq=> ?_,fun r z hz=>g3 r z (h3 r z hz)⟩
  rcases Ae.1 hq with rfl|hq
  .exact h2.imp id (g3 _ _)
  .exact g2 q hq
theorem xj6:UOk []:=⟨List.Pairwise.nil,fun y hy=>by cases hy⟩
def rowP (t:Int) (r:List GExpr):List (Int×GSpan):=
 match tabsS[t.toNat]? with
 |none=> []
 |some T=>
  if r.length<=T.key.toNat then []else
  if(evN (r.getD T.key.toNat zeroE)).2≠0∨(evN (r.getD T.key.toNat zeroE)).1.kind=0 then []else
  match regN T r with
  |none=> []
  |some g=>if(yV t g).2≠0 then []else [((yV t g).1,⟨zj0 3 t (evN (r.getD T.key.toNat zeroE)).1,zj0 3 t (evN (r.getD T.key.toNat zeroE)).1++ [0]⟩)]
theorem xS0 (t:Int) (r:List GExpr) (U:US):rowS t r U=zi9 (rowP t r) U:=by
 unfold rowS rowP
 cases tabsS[t.toNat]? with
 |none=>rfl
 |some T=>
  simp only
  generalize evN (r.getD T.key.toNat zeroE)=kv
  by_cases a:r.length<=T.key.toNat
  .rw[if_pos a,if_pos a];rfl
  rw[if_neg a,if_neg a]
  by_cases b:kv.2≠0∨kv.1.kind=0
  .rw[if_pos b,if_pos b];rfl
  rw[if_neg b,if_neg b]
  cases regN T r with
  |none=>rfl
  |some g=>
   simp only
   by_cases d:(yV t g).2≠0
   .rw[if_pos d,if_pos d];rfl
   .rw[if_neg d,if_neg d];rfl
def stP (st:GStmt):List (Int×GSpan):=
 if yG st.table<0 then []else if st.kind=2 then st.rows.flatMap (rowP (yG st.table))
 else(xS (yG st.table) st).map fun rg=>((yV (yG st.table) rg).1,⟨(zg4 tabsS (yG st.table) st).1,(zg4 tabsS (yG st.table) st).2⟩)
theorem ye0 (ps qs:List (Int×GSpan)) (U:US):zi9 (ps++qs) U=zi9 qs (zi9 ps U):=Dl ..
theorem xH2 (U:US) (st:GStmt):zB8 rowS U st=zi9 (stP st) U:=by
 unfold zB8 stP
 split
 .rfl
 .split
  .have: ∀(rs:List (List GExpr)) (U:US),rs.foldl (fun U r=>rowS (yG st.table) r U) U=zi9 (rs.flatMap (rowP (yG st.table))) U:=by
    intro rs
    induction rs with
    |nil=>intro U;rfl
    |cons r rs ih=>intro U;rw[Bb,C1,ye0,ih,xS0]
   exact this _ _
  .unfold zi9
   rw[List.foldl_map]
   rfl
theorem zI7: ∀(l:List GStmt) (U:US),l.foldl (zB8 rowS) U=zi9 (l.flatMap stP) U
 | [],_=>rfl
 |x::l,U=>by rw[Bb,C1,ye0,zI7 l,xH2]
theorem yt9 (l:GLot):UOk (za6 l):=by
 unfold za6
 rw[zI7]
 exact(zU6 _ xj6).1
def okP (r:Int) (e:GExpr):Bool:=match zc6 e [82]with|none=>true|some (s,v)=> !(s== [61]&&(v.kind==2&& !(v.n==r)))
theorem yx8: ∀(l:List GExpr) (rs:List Int),cutR l rs=rs.filter fun r=>l.all (okP r)
 | [],rs=>(Dw.2 fun _ _=>rfl).symm
 |e::l,rs=>by
  have ih:=yx8 l
  have h:cutR (e::l) rs=cutR l (match zc6 e [82]with|none=>rs|some (s,v)=>if s= [61]/\v.kind=2 then zh5 v.n rs else rs):=rfl
  rw[h,ih]
  have h2:(match zc6 e [82]with|none=>rs|some (s,v)=>if s= [61]/\v.kind=2 then zh5 v.n rs else rs)=rs.filter (okP · e):=by
   unfold okP
   cases zc6 e [82]with
   |none=>exact(Dw.2 fun _ _=>rfl).symm
   |some p=>
    obtain⟨s,v⟩:=p
    simp only
    by_cases q:s= [61]/\v.kind=2
    .rw[if_pos q]
     unfold zh5
     refine Ed fun r _=> ?_
     rw[q.1,q.2]
     by_cases w:r=v.n
     .subst w;simp
     .have w1:(r==v.n)=false:=by simpa using w
      have w2:(v.n==r)=false:=by simpa using fun h=>w h.symm
      rw[w1,w2];rfl
    .rw[if_neg q]
     refine(Dw.2 fun r _=> ?_).symm
     by_cases q1:s= [61]
     .have q2:(v.kind==2)=false:=by simpa using fun h=>q ⟨q1,h⟩
      rw[q2];simp
     .have aa:(s== [61])=false:=by simpa using q1
      rw[aa];rfl
  rw[h2,E9]
  refine Ed fun r _=> ?_
  rw[Ar,Bool.and_comm]
theorem xb8: ∀a:List UInt8,Op.bytesLess a (a++ [0])=true
 | []=>rfl
 |a::l=>by simp[Op.bytesLess,xb8 l]
def zS1 (tn:Nat) (row:List GValue):Int:=if tn=0 then(row.getD 0 zeroV).n else if tn=1 then -1 else 1
def keyS (tn:Nat) (T:GTable) (row:List GValue):Int×List UInt8×Int:=
 if mayT T.cols row≠0 then(0,[],mayT T.cols row)else if tn=0/\ ¬((row.getD 0 zeroV).n=0∨(row.getD 0 zeroV).n=1)then(0,[],19)else((yV tn (zS1 tn row)).1,zj0 3 tn (row.getD T.key.toNat zeroV),0)
end Go.Proofs.YtefbicjgbaaieaaGreat
namespace Go.Proofs.YtefbicjgbaaieaaGreat
open Go Go.Vx Go.Proofs.Tryz
set_option maxRecDepth 100000
variable {α:Type}
abbrev Pl:=Int×List UInt8
def plV (p:Pl):V:= .agg [.int .i64 p.1,.str p.2]
abbrev kPl:Kk:= .st [.i .i64,.s]
def kvE {α:Type} (g:α->V):List (Pl×α)->List V
 | []=> []
 |e::W=>plV e.1::g e.2::kvE g W
structure Mp (α:Type) where
 W:List (Pl×α)
 bs:List Nat
 clk:Nat
def Mp.ob (g:α->V) (m:Mp α):Ob:= .mp (kvE g m.W) m.bs m.clk
structure Mp.ok {α:Type} (m:Mp α):Prop where
 len:m.bs.length=m.W.length
 nd:m.bs.Nodup
 lt: ∀b∈m.bs,b<m.clk
 keys:(m.W.map (·.1)).Nodup
def mp0 (α:Type):Mp α:=⟨[],[],0⟩
theorem xC1 (α:Type):(mp0 α).ok:=⟨rfl,D9,fun b hb=>(by cases hb),D9⟩
def idxW {α:Type} (p:Pl):List (Pl×α)->Option (Nat×α)
 | []=>none
 |e::W=>if e.1=p then some (0,e.2)else(idxW p W).map fun q=>(q.1+1,q.2)
def Mp.at (m:Mp α) (p:Pl):Option (Nat×α):=idxW p m.W
def Mp.get (m:Mp α) (p:Pl):Option α:=(m.at p).map (·.2)
def Mp.put (m:Mp α) (p:Pl) (v:α):Mp α:=match m.at p with
 |some (i,_)=>⟨m.W.set i (p,v),m.bs,m.clk⟩
 |none=>⟨m.W++ [(p,v)],m.bs++ [m.clk],m.clk+1⟩
def Mp.del (m:Mp α) (p:Pl):Mp α:=match m.at p with
 |some (i,_)=>⟨m.W.eraseIdx i,m.bs.eraseIdx i,m.clk⟩
 |none=>m
theorem eqPl (p q:Pl):eqKk kPl (plV p) (plV q)=some (decide (p=q)):=by
 obtain⟨a,b⟩:=p
 obtain⟨c,d⟩:=q
 simp only[eqKk,plV,eqVs,eqPk,and_self,if_true,B3,B8,Cm,Option.some.injEq]
 rw[D4]
 simp
theorem xX0 (p:Pl):zn1 kPl (plV p)=true:=by simp[zn1,plV,zc3,zd4]
section
variable {α:Type} {g:α->V}
variable {m:Mp α}{p:Pl}{σ:St}{z:α}{i:Nat}{r:Int}{k:List UInt8}
theorem yz6 (p:Pl): ∀(W:List (Pl×α)) (i:Nat),zj1 kPl (plV p) (kvE g W) i=some ((idxW p W).map fun q=>(i+q.1,g q.2))
 | [],_=>rfl
 |e::W,i=>by
  rw[kvE,zj1,eqPl,idxW]
  by_cases h:e.1=p
  .rw[if_pos h];simp[h]
  .rw[if_neg h]
   have:decide (p=e.1)=false:=decide_eq_false fun q=>h q.symm
   rw[this]
   simp only
   rw[yz6 p W (i+1)]
   cases idxW p W with
   |none=>rfl
   |some q=>simp;omega
theorem xd4 (m:Mp α) (p:Pl):zj1 kPl (plV p) (kvE g m.W) 0=some ((m.at p).map fun q=>(q.1,g q.2)):=by
 rw[yz6];simp[Mp.at]
theorem zi2 {p:Pl} {i:Nat} {v:α}: ∀{W:List (Pl×α)},idxW p W=some (i,v)->W[i]? =some (p,v)
 | [],h=>by simp[idxW]at h
 |e::W,h=>by
  rw[idxW]at h
  by_cases q:e.1=p
  .rw[if_pos q]at h
   simp only[Option.some.injEq,Prod.mk.injEq]at h
   obtain⟨rfl,rfl⟩:=h
   simp[<-q]
  .rw[if_neg q]at h
   simp only[B0,Prod.mk.injEq]at h
   obtain⟨⟨j,u⟩,h1,rfl,rfl⟩:=h
   simpa using zi2 h1
theorem zL4 {p:Pl}: ∀{W:List (Pl×α)},idxW p W=none-> ∀e∈W,e.1≠p
 | [],_,e,he=>by cases he
 |e::W,h,x,hx=>by
  rw[idxW]at h
  by_cases q:e.1=p
  .rw[if_pos q]at h;cases h
  .rw[if_neg q]at h
   simp only[Option.map_eq_none_iff]at h
   rcases Ae.1 hx with rfl|hx
   .exact q
   .exact zL4 h x hx
theorem xd9 {p:Pl} {v:α}: ∀{W:List (Pl×α)},(W.map (·.1)).Nodup->(p,v)∈W-> ∃i,idxW p W=some (i,v)
 | [],_,h=>by cases h
 |e::W,hn,h=>by
  rw[Aj,C9]at hn
  rw[idxW]
  rcases Ae.1 h with rfl|h
  .exact⟨0,if_pos rfl⟩
  .have:e.1≠p:=fun q=>hn.1 (Ac.2 ⟨(p,v),h,q.symm⟩)
   obtain⟨i,hi⟩:=xd9 hn.2 h
   exact⟨i+1,by rw[if_neg this,hi];rfl⟩
theorem Mp.get_mem (hm:m.ok) {v:α}:m.get p=some v↔(p,v)∈m.W:=by
 constructor
 .intro h
  unfold Mp.get Mp.at at h
  rw[B0]at h
  obtain⟨⟨i,u⟩,h1,rfl⟩:=h
  exact As (zi2 h1)
 .intro h
  obtain⟨i,hi⟩:=xd9 hm.keys h
  unfold Mp.get Mp.at
  rw[hi];rfl
theorem yt1 (W:List (Pl×α)) (p:Pl) (v:α):kvE g W++ [plV p,g v]=kvE g (W++ [(p,v)]):=by
 induction W with
 |nil=>rfl
 |cons e W ih=>rw[kvE,Bz,Bz,ih];rfl
theorem xB2 (p:Pl) (v:α): ∀(W:List (Pl×α)) (i:Nat),zw2 (kvE g W) i (plV p) (g v)=kvE g (W.set i (p,v))
 | [],i=>by simp[zw2,kvE]
 |e::W,0=>by simp[zw2,kvE]
 |e::W,i+1=>by
  have ih:=xB2 p v W i
  unfold zw2 at ih⊢
  rw[show 2*(i+1)=2*i+1+1 by omega,kvE]
  simp only[Cg]
  rw[ih]
  rfl
theorem yV3 (v:α): ∀(W:List (Pl×α)) (i:Nat) (p:Pl) (u:α),W[i]? =some (p,u)->(kvE g W).set (2*i+1) (g v)=kvE g (W.set i (p,v))
 | [],i,_,_,h=>by simp at h
 |e::W,0,p,u,h=>by simp at h;subst h;simp[kvE]
 |e::W,i+1,p,u,h=>by
  have ih:=yV3 v W i p u (by simpa using h)
  rw[show 2*(i+1)+1=2*i+1+1+1 by omega,kvE]
  simp only[Cg]
  rw[ih]
  rfl
theorem xB1: ∀(W:List (Pl×α)) (i:Nat),i<W.length->zQ7 (kvE g W) i=kvE g (W.eraseIdx i)
 | [],i,h=>by simp at h
 |e::W,0,_=>by simp[zQ7,kvE]
 |e::W,i+1,h=>by
  have ih:=xB1 W i (by simpa using h)
  unfold zQ7 at ih⊢
  rw[show 2*(i+1)=2*i+1+1 by omega,show 2*i+1+1+2=2*i+2+1+1 by omega,kvE]
  simp only[C8,Dm,Bz]
  rw[ih]
  rfl
theorem yc2 {z:V} {id:Nat} (hσ:σ[id]? =some (m.ob g)) (p:Pl) (ok:Bool):
  xR (some (kPl,z)) σ (.mp id) (plV p) ok= .ok (match m.get p with
   |some v=>if ok then .tup [g v,.bool true]else g v
   |none=>if ok then .tup [z,.bool false]else z):=by
 unfold xR
 simp only[xX0,if_true,hσ,Mp.ob,xd4]
 unfold Mp.get
 cases m.at p<;>rfl
def Mp.ent {α:Type} (m:Mp α) (p:Pl) (z:α):Mp α:=match m.at p with
 |some _=>m
 |none=>⟨m.W++ [(p,z)],m.bs++ [m.clk],m.clk+1⟩
def Mp.stamp {α:Type} (m:Mp α) (p:Pl):Nat:=match m.at p with
 |some (i,_)=>m.bs.getD i 0
 |none=>m.clk
theorem xw9 {id:Nat} (hm:m.ok) (hσ:σ[id]? =some (m.ob g)) (p:Pl):
  xU (some (kPl,g z)) σ (.mp id) (plV p)=(match m.at p with
   |some (_,v)=> .ok (.tup [g v,.int .i64 (m.stamp p:Int)])
   |none=> .st (.tup [g z,.int .i64 (m.stamp p:Int)]) (σ.set id ((m.ent p z).ob g))):=by
 unfold xU Mp.stamp Mp.ent
 simp only[xX0,if_true,hσ,Mp.ob,xd4]
 cases h:m.at p with
 |none=>simp only[Option.map_none,yt1]
 |some q=>
  have:=(A3.1 (zi2 (W:=m.W) (i:=q.1) (v:=q.2) h)).1
  have hb:m.bs[q.1]? =some (m.bs.getD q.1 0):=by
   rw[A7,A0 (by rw[hm.len];exact this)]
   rfl
  simp only[B8,hb]
theorem yf9 {bs:List Nat} (hn:bs.Nodup) {b:Nat} (h:bs[i]? =some b):bs.findIdx? (fun(x:Nat)=>((x:Int)==(b:Int)))=some i:=by
 obtain⟨hi,rfl⟩:=A3.1 h
 rw[List.findIdx?_eq_some_iff_getElem]
 refine⟨hi,sm,fun j hj=> ?_⟩
 intro q
 rw[beq_iff_eq]at q
 exact absurd ((Er hn).1 (Int.ofNat.inj q)) om
theorem yr1 {id:Nat} (hm:m.ok) (hg: ∀v,wY (g v)=true) (p:Pl) (hσ:σ[id]? =some ((m.ent p z).ob g)) (v:α):
  xL σ (.mp id) (.int .i64 (m.stamp p:Int)) (g v)= .st .u (σ.set id ((m.put p v).ob g)):=by
 unfold xL
 simp only[hg,if_true,hσ]
 unfold Mp.ob Mp.ent Mp.stamp Mp.put
 cases h:m.at p with
 |none=>
  have hf:(m.bs++ [m.clk]).findIdx? (fun(b:Nat)=>((b:Int)==(m.clk:Int)))=some m.W.length:=by
   refine yf9 ?_ ?_
   .rw[Co]
    refine⟨hm.nd,sm,fun a ha b hb=> ?_⟩
    have:=hm.lt a ha
    simp at hb;omega
   .rw[<-hm.len];simp
  simp only[hf]
  rw[yV3 v (m.W++ [(p,z)]) m.W.length p z sm]
  simp
 |some q=>
  have h1:=zi2 (W:=m.W) (i:=q.1) (v:=q.2) h
  have hl:=(A3.1 h1).1
  have hb:m.bs[q.1]? =some (m.bs.getD q.1 0):=by
   rw[A7,A0 (by rw[hm.len];exact hl)]
   rfl
  simp only[yf9 hm.nd hb]
  rw[yV3 v m.W q.1 p q.2 h1]
theorem Mp.ent_ok (hm:m.ok) (p:Pl) (z:α):(m.ent p z).ok:=by
 unfold Mp.ent
 cases h:m.at p with
 |some q=>exact hm
 |none=>
  refine⟨by simp[hm.len], ?_,fun b hb=> ?_, ?_⟩
  .rw[Co]
   refine⟨hm.nd,sm,fun a ha b hb=> ?_⟩
   have:=hm.lt a ha
   simp at hb;omega
  .rcases Av.1 hb with hb|hb
   .have:=hm.lt b hb;show b<m.clk+1;omega
   .simp at hb;subst hb;exact Es _
  .rw[Ca,Co]
   refine⟨hm.keys,sm,fun a ha b hb=> ?_⟩
   obtain⟨e,he,rfl⟩:=Ac.1 ha
   simp at hb
   subst hb
   exact zL4 h e he
theorem Mp.put_ok (hm:m.ok) (p:Pl) (v:α):(m.put p v).ok:=by
 unfold Mp.put
 cases h:m.at p with
 |some q=>
  have h1:=zi2 (W:=m.W) (i:=q.1) (v:=q.2) h
  have:((m.W.set q.1 (p,v)).map (·.1))=m.W.map (·.1):=by
   rw[E8]
   exact yK _ _ _ (by rw[B2,h1];rfl)
  exact⟨by simp[hm.len],hm.nd,hm.lt,by rw[this];exact hm.keys⟩
 |none=>
  have:=Mp.ent_ok hm p v
  unfold Mp.ent at this
  rw[h]at this
  exact this
theorem Mp.del_ok (hm:m.ok) (p:Pl):(m.del p).ok:=by
 unfold Mp.del
 cases h:m.at p with
 |some q=>
  refine⟨?_,List.Nodup.sublist (List.eraseIdx_sublist _ _) hm.nd,fun b hb=>hm.lt b (List.mem_of_mem_eraseIdx hb), ?_⟩
  .simp only[List.length_eraseIdx,hm.len]
  .exact List.Nodup.sublist ((List.eraseIdx_sublist m.W q.1).map _) hm.keys
 |none=>exact hm
theorem Mp.ent_some {q:Nat×α} (h:m.at p=some q):m.ent p z=m:=by unfold Mp.ent;rw[h]
theorem zy0 {p:Pl} {v:α}: ∀{W:List (Pl×α)},idxW p W=none->idxW p (W++ [(p,v)])=some (W.length,v)
 | [],_=>by simp[idxW]
 |e::W,h=>by
  rw[idxW]at h
  by_cases q:e.1=p
  .rw[if_pos q]at h;cases h
  .rw[if_neg q,Option.map_eq_none_iff]at h
   rw[Bz,idxW,if_neg q,zy0 h]
   rfl
theorem Mp.ent_get (h:m.at p=none):(m.ent p z).get p=some z:=by
 unfold Mp.get Mp.at Mp.ent
 rw[h]
 simp only
 unfold Mp.at at h
 rw[zy0 h];rfl
theorem Mp.get_none (h:m.at p=none):m.get p=none:=by unfold Mp.get;rw[h];rfl
theorem Mp.get_some {v:α} (h:m.at p=some (i,v)):m.get p=some v:=by unfold Mp.get;rw[h];rfl
theorem xw8 {md:Option (Kk×V)} (hz:md=some (kPl,g z)) (h:m.at p=none):xR md [(m.ent p z).ob g] (.mp 0) (plV p) false=xR md [m.ob g] (.mp 0) (plV p) false:=by
 subst hz
 rw[yc2 (m:=m.ent p z) rfl,yc2 (m:=m) rfl,Mp.ent_get h,Mp.get_none h]
 rfl
theorem yK4 {p:Pl} {v u:α}: ∀{W:List (Pl×α)} {i:Nat},idxW p W=some (i,u)->idxW p (W.set i (p,v))=some (i,v)
 | [],_,h=>by simp[idxW]at h
 |e::W,i,h=>by
  rw[idxW]at h
  by_cases q:e.1=p
  .rw[if_pos q]at h
   simp only[Option.some.injEq,Prod.mk.injEq]at h
   obtain⟨rfl,rfl⟩:=h
   rw[Dc,idxW,if_pos rfl]
  .rw[if_neg q,B0]at h
   obtain⟨⟨j,w⟩,h1,h2⟩:=h
   simp only[Prod.mk.injEq]at h2
   obtain⟨rfl,rfl⟩:=h2
   rw[Cg,idxW,if_neg q,yK4 h1]
   rfl
theorem Mp.put_at (m:Mp α) (p:Pl) (v:α): ∃i,idxW p (m.put p v).W=some (i,v):=by
 unfold Mp.put
 cases h:m.at p with
 |none=>exact⟨_,zy0 h⟩
 |some q=>exact⟨q.1,yK4 (u:=q.2) h⟩
theorem zb5 {W:List (Pl×α)}:zj1 (.st [.i .i64,.s]) (.agg [.int .i64 r,.str k]) (kvE g W) 0=some ((idxW (r,k) W).map fun q=>(q.1,g q.2)):=by
 show zj1 kPl (plV (r,k)) (kvE g W) 0=_
 rw[yz6]
 simp only[Ad]
theorem yI8 {id:Nat} (hm:m.ok) (hσ:σ[id]? =some (m.ob g)) (h:m.at p=none):
  xU (some (kPl,g z)) σ (.mp id) (plV p)= .st (.tup [g z,.int .i64 (m.stamp p:Int)]) (σ.set id ((m.ent p z).ob g)):=by
 have:=xw9 hm (z:=z) hσ p
 rw[h]at this
 exact this
theorem xw7 {id:Nat} (hm:m.ok) {v:α} (hσ:σ[id]? =some (m.ob g)) (h:m.at p=some (i,v)):
  xU (some (kPl,g z)) σ (.mp id) (plV p)= .ok (.tup [g v,.int .i64 (m.stamp p:Int)]):=by
 have:=xw9 hm (z:=z) hσ p
 rw[h]at this
 exact this
theorem yq6 {id:Nat} {m:Mp Int} (hm:m.ok) (h:m.at (r,k)=none) (hσ:σ[id]? =some (m.ob (V.int .i64))):
  xU (some (.st [.i .i64,.s],.int .i64 0)) σ (.mp id) (.agg [.int .i64 r,.str k])= .st (.tup [.int .i64 0,.int .i64 (m.stamp (r,k):Int)]) (σ.set id ((m.ent (r,k) 0).ob (V.int .i64))):=yI8 (g:=V.int .i64) hm (z:=0) hσ h
theorem yq5 {id:Nat} {m:Mp Int} {v:Int} (hm:m.ok) (h:m.at (r,k)=some (i,v)) (hσ:σ[id]? =some (m.ob (V.int .i64))):
  xU (some (.st [.i .i64,.s],.int .i64 0)) σ (.mp id) (.agg [.int .i64 r,.str k])= .ok (.tup [.int .i64 v,.int .i64 (m.stamp (r,k):Int)]):=xw7 (g:=V.int .i64) hm (z:=0) hσ h
theorem zL1 {id:Nat} {m:Mp (List UInt8)} (hm:m.ok) (h:m.at (r,k)=none) (hσ:σ[id]? =some (m.ob V.str)):
  xU (some (.st [.i .i64,.s],.str [])) σ (.mp id) (.agg [.int .i64 r,.str k])= .st (.tup [.str [],.int .i64 (m.stamp (r,k):Int)]) (σ.set id ((m.ent (r,k) []).ob V.str)):=yI8 (g:=V.str) hm (z:= []) hσ h
theorem zY7 {id:Nat} {m:Mp Int} {v:Int} (hm:m.ok) (hσ:σ[id]? =some ((m.ent p 0).ob (V.int .i64))):
  xL σ (.mp id) (.int .i64 (m.stamp p:Int)) (.int .i64 v)= .st .u (σ.set id ((m.put p v).ob (V.int .i64))):=yr1 (g:=V.int .i64) hm (fun _=>rfl) p hσ v
theorem zx3 {id:Nat} {m:Mp (List UInt8)} {v:List UInt8} (hm:m.ok) (hσ:σ[id]? =some ((m.ent p []).ob V.str)):
  xL σ (.mp id) (.int .i64 (m.stamp p:Int)) (.str v)= .st .u (σ.set id ((m.put p v).ob V.str)):=yr1 (g:=V.str) hm (fun _=>rfl) p hσ v
theorem yy3 {id:Nat} {m:Mp Int} {q:Nat×Int} {v:Int} (hm:m.ok) (h:m.at p=some q) (hσ:σ[id]? =some (m.ob (V.int .i64))):
  xL σ (.mp id) (.int .i64 (m.stamp p:Int)) (.int .i64 v)= .st .u (σ.set id ((m.put p v).ob (V.int .i64))):=zY7 hm (by rw[Mp.ent_some h];exact hσ)
end
end Go.Proofs.YtefbicjgbaaieaaGreat
namespace Go.Proofs.YtefbicjgbaaieaaGreat
open Go Go.Vx R Go.Proofs.Tryz
set_option maxRecDepth 100000
structure Ln where
 r:Int
 k:List UInt8
 v:List GValue
variable {b:Mp (List UInt8)}{p:Pl}
@[go_sem] def Ln.row (x:Ln):List V:= [.int .i64 x.r,.str x.k,.sl .ro (x.v.map GValue.row)]
def Ln.at (x:Ln):Pl:=(x.r,x.k)
def xB (a b:Pl):Bool:=decide (a.1<b.1)||(decide (a.1=b.1)&&Op.bytesLess a.2 b.2)
theorem zL7 (a:Pl):xB a a=false:=by simp[xB,zd8]
theorem zI2 {a b c:Pl} (h:xB a b=true) (g:xB b c=true):xB a c=true:=by
 simp only[xB,Bv,A6,decide_eq_true_eq]at h g⊢
 rcases h with h|⟨h,h'⟩<;>rcases g with g|⟨g,g'⟩
 .exact .inl om
 .exact .inl om
 .exact .inl om
 .exact .inr ⟨om,zq0 _ _ _ h' g'⟩
theorem zB1 (a b:Pl):xB a b=true∨a=b∨xB b a=true:=by
 simp only[xB,Bv,A6,decide_eq_true_eq]
 rcases Ee a.1 b.1 with h|h|h
 .exact .inl (.inl h)
 .rcases zA3 a.2 b.2 with g|g|g
  .exact .inl (.inr ⟨h,g⟩)
  .exact .inr (.inl (Et h g))
  .exact .inr (.inr (.inr ⟨h.symm,g⟩))
 .exact .inr (.inr (.inl h))
theorem zO6 {a b:Pl} (h:xB a b=true):xB b a=false:=by
 cases q:xB b a
 .rfl
 .have:=zI2 h q;rw[zL7]at this;cases this
def Rise (l:List Pl):Prop:=l.Pairwise fun a b=>xB a b=true
def zC5 (l:List Ln) (x:Ln):List Ln:=l.takeWhile (fun y=>xB y.at x.at)++x::l.dropWhile (fun y=>xB y.at x.at)
def atF (l:List Ln) (p:Pl):Bool:=l.any fun x=>x.at==p
def zi8 (t:Int) (st:GStmt) (x:Ln):Bool:=
 (xS t st).any (fun g=>(yV t g).1==x.r)&&(!Op.bytesLess x.k (zg4 tabsS t st).1&&Op.bytesLess x.k (zg4 tabsS t st).2)
def zw7 (T:GTable) (st:GStmt):List Ln->List Ln->List Ln×Int
 |acc,[]=>(acc,0)
 |acc,x::l=>if(evR T x.v st.where_).2≠0 then([],(evR T x.v st.where_).2)else zw7 T st (if ya3 (evR T x.v st.where_).1=true then acc++ [x]else acc) l
def metF (t:Int) (T:GTable) (st:GStmt) (l:List Ln):List Ln×Int:=
 if st.filtered=true then zw7 T st [] (l.filter (zi8 t st))else(l.filter (zi8 t st),0)
def evsX (T:GTable) (row:List GValue):List GExpr->List GValue->List GValue×Int
 | [],acc=>(acc,0)
 |e::l,acc=>if(evR T row e).2≠0 then([],(evR T row e).2)else evsX T row l (acc++ [(evR T row e).1])
def insF (t:Nat) (T:GTable):List (List GExpr)->List Ln->List Ln×Int
 | [],l=>(l,0)
 |r::rs,l=>
  if(evsX noT [] r []).2≠0 then([],(evsX noT [] r []).2)
  else if(keyS t T (evsX noT [] r []).1).2.2≠0 then([],(keyS t T (evsX noT [] r []).1).2.2)
  else if atF l ((keyS t T (evsX noT [] r []).1).1,(keyS t T (evsX noT [] r []).1).2.1)=true then([],18)
  else insF t T rs (zC5 l ⟨(keyS t T (evsX noT [] r []).1).1,(keyS t T (evsX noT [] r []).1).2.1,(evsX noT [] r []).1⟩)
def setF (T:GTable) (old:List GValue):List GAssign->List GValue->List GValue×Int
 | [],row=>(row,0)
 |x::l,row=>if(evR T old x.e).2≠0 then([],(evR T old x.e).2)else setF T old l (row.set (colF T x.name).toNat (evR T old x.e).1)
def putF (l:List Ln) (p:Pl) (row:List GValue):List Ln:=l.map fun y=>if y.at=p then⟨y.r,y.k,row⟩else y
def updF (T:GTable) (sets:List GAssign):List Ln->List Ln->List Ln×Int
 | [],l=>(l,0)
 |x::m,l=>
  if(setF T x.v sets x.v).2≠0 then([],(setF T x.v sets x.v).2)
  else if mayT T.cols (setF T x.v sets x.v).1≠0 then([],mayT T.cols (setF T x.v sets x.v).1)
  else updF T sets m (putF l x.at (setF T x.v sets x.v).1)
def delF:List Ln->List Ln->List Ln
 | [],l=>l
 |x::m,l=>delF m (l.filter fun y=> !decide (y.at=x.at))
def zK2 (items:List GItem):Bool:=items.any fun x=>x.kind==3||x.kind==4
def sumF (T:GTable) (e:GExpr):List Ln->GValue->GValue×Int
 | [],acc=>(acc,0)
 |x::l,acc=>
  if(evR T x.v e).2≠0 then(zeroV,(evR T x.v e).2)
  else if(evR T x.v e).1.kind=0 then sumF T e l acc
  else if(rngF (acc.n+(evR T x.v e).1.n)).2≠0 then(zeroV,(rngF (acc.n+(evR T x.v e).1.n)).2)
  else sumF T e l ⟨2,(rngF (acc.n+(evR T x.v e).1.n)).1,[]⟩
def zz2 (T:GTable) (l:List Ln):List GItem->List GValue->List GValue×Int
 | [],acc=>(acc,0)
 |x::xs,acc=>
  if x.kind=4 then(if(sumF T x.e l zeroV).2≠0 then([],(sumF T x.e l zeroV).2)else zz2 T l xs (acc++ [(sumF T x.e l zeroV).1]))
  else zz2 T l xs (acc++ [⟨2,l.length,[]⟩])
def insB (gt:Ln->Bool) (out:List Ln) (x:Ln):List Ln:=(out.reverse.dropWhile gt).reverse++x::(out.reverse.takeWhile gt).reverse
def cmpC (c:Nat) (down:Bool) (x y:Ln):Int:=if down=true then -(cmpV (x.v.getD c zeroV) (y.v.getD c zeroV))else cmpV (x.v.getD c zeroV) (y.v.getD c zeroV)
def zw4 (c:Nat) (down:Bool) (l:List Ln):List Ln:=l.foldl (fun out x=>insB (fun y=>decide (0<cmpC c down y x)) out x) []
def limF (limit:Int) (l:List Ln):List Ln:=if 0<=limit then l.take limit.toNat else l
def zs9 (T:GTable) (items:List GItem):List Ln->List (List GValue)->List (List GValue)×Int
 | [],acc=>(acc,0)
 |x::l,acc=>
  if(items.head?.map (·.kind))=some 1 then zs9 T items l (acc++ [x.v])
  else if(evsX T x.v (items.map (·.e)) []).2≠0 then([],(evsX T x.v (items.map (·.e)) []).2)
  else zs9 T items l (acc++ [(evsX T x.v (items.map (·.e)) []).1])
structure Ot where
 count:Int
 rows:List (List GValue)
def Ot.row (x:Ot):List V:= [.sl .ro (x.rows.map fun r=> [.sl .ro (r.map GValue.row)]),.int .i64 x.count]
def selF (T:GTable) (st:GStmt) (l:List Ln):Ot×Int:=
 if zK2 st.items=true then(if(zz2 T l st.items []).2≠0 then(⟨0,[]⟩,(zz2 T l st.items []).2)else(⟨0,[(zz2 T l st.items []).1]⟩,0))
 else
  let m:=limF st.limit (if 0<=colF T st.order then zw4 (colF T st.order).toNat st.down l else l)
  if(zs9 T st.items m []).2≠0 then(⟨0,[]⟩,(zs9 T st.items m []).2)else(⟨0,(zs9 T st.items m []).1⟩,0)
def doS (st:GStmt) (l:List Ln):Ot×List Ln×Int:=
 let t:=(yG st.table).toNat
 let T:=tabsS.getD t noT
 if st.kind=2 then(if(insF t T st.rows l).2≠0 then(⟨0,[]⟩,[],(insF t T st.rows l).2)else(⟨st.rows.length,[]⟩,(insF t T st.rows l).1,0))
 else if(metF t T st l).2≠0 then(⟨0,[]⟩,[],(metF t T st l).2)
 else if st.kind=1 then((selF T st (metF t T st l).1).1,l,(selF T st (metF t T st l).1).2)
 else if st.kind=3 then
  (if(updF T st.sets (metF t T st l).1 l).2≠0 then(⟨0,[]⟩,[],(updF T st.sets (metF t T st l).1 l).2)else(⟨(metF t T st l).1.length,[]⟩,(updF T st.sets (metF t T st l).1 l).1,0))
 else(⟨(metF t T st l).1.length,[]⟩,delF (metF t T st l).1 l,0)
def doL:List GStmt->Nat->List Ot->List Ln->(Int×Int×List Ot)×List Ln
 | [],_,acc,l=>((0,0,acc),l)
 |x::ss,i,acc,l=>if(doS x l).2.2≠0 then(((doS x l).2.2,(i:Int),[]),[])else doL ss (i+1) (acc++ [(doS x l).1]) (doS x l).2.1
def lotF (lot:GLot) (l:List Ln):(Int×Int×List Ot)×List Ln:=
 if(zn5 lot).2≠0 then(((zn5 lot).2,(zn5 lot).1,[]),l)else if(doL lot.stmts 0 [] l).1.1≠0 then((doL lot.stmts 0 [] l).1,l)else doL lot.stmts 0 [] l
structure Wr where
 p:Pl
 drop:Bool
 data:List UInt8
def insW (l:List Wr) (w:Wr):List Wr:=l.takeWhile (fun y=>xB y.p w.p)++w::l.dropWhile (fun y=>xB y.p w.p)
def chgF (was now:List Ln):List Wr:=
 (now.filter fun x=> !(was.any fun y=>decide (y.at=x.at)&&decide (yO y.v=yO x.v))).foldl (fun l x=>insW l ⟨x.at,false,yO x.v⟩)
  ((was.filter fun x=> !atF now x.at).foldl (fun l x=>insW l ⟨x.at,true,[]⟩) [])
theorem zB2 {cols:List GCol} {row:List GValue} (hc:cols.length<=20) (hv: ∀v∈row,v.ok) (h:mayT cols row=0):LightR row:=by
 have hl:=zk1 h
 refine⟨om,fun v aa=> ?_,hv⟩
 rcases zO7 (yM5 h v aa)with ⟨_,_,h3⟩|⟨_,_,h3⟩|⟨_,h3⟩|⟨_,_,h3⟩
 .rw[h3];decide
 .rw[h3];decide
 .rw[h3];decide
 .omega
theorem xn6 (tn:Nat) (T:GTable) (hT:tabsS[tn]? =some T) (row:List GValue):keyR 3 tn T row (yV tn)=keyS tn T row:=by
 unfold keyR keyS
 by_cases h:mayT T.cols row≠0
 .rw[if_pos h,if_pos h]
 .rw[if_neg h,if_neg h]
  have hl:=zk1 (Classical.not_not.1 h)
  have e0:row.headD v0=row.getD 0 zeroV:=by cases row<;>rfl
  rw[e0]
  have ev:v0=zeroV:=rfl
  rw[ev]
  obtain⟨aa,ab⟩:=A3.1 hT
  have h3:tn<3:=aa
  unfold zS1 yV
  generalize row.getD 0 zeroV=x
  match tn,h3 with
  |0,_=>
   have hp:T.place=0:=by cases hT;decide
   simp only[hp,if_true,true_and]
   by_cases q0:x.n=0
   .simp[q0,show min (max (0:Int) (-1)) 4=0 by decide]
   .by_cases q1:x.n=1
    .simp[q1,show min (max (1:Int) (-1)) 4=1 by decide]
    .have n0: ¬min (max x.n (-1)) 4=0:=om
     have n1: ¬min (max x.n (-1)) 4=1:=om
     simp[q0,q1,n0,n1]
  |1,_=>
   have hp: ¬T.place=0:=by cases hT;decide
   simp
  |2,_=>
   have hp: ¬T.place=0:=by cases hT;decide
   simp
theorem yv3 (tn:Nat) (T:GTable) (hT:tabsS[tn]? =some T) (row:List GValue) (hr:row.length<=maxLen) (hv: ∀v∈row,v.ok):Pure prog 88 [schR tabsS,.int .i64 tn,.sl .ro (row.map GValue.row)] (keyV (keyS tn T row)):=by
 obtain⟨aa,ab⟩:=A3.1 hT
 have hk:=(by decide: ∀T∈tabsS,0<=T.key/\T.key<T.cols.length/\T.cols.length<=20) T (ab▸Aa aa)
 rw[<-xn6 tn T hT row]
 exact xt2 xG tabsS tn aa T ab row hr (zB2 hk.2.2 hv) dC ⟨hk.1,hk.2.1⟩ (yV tn) fun r h1 h2 h3=>by
  have ad:tn<3:=aa
  exact zG6 tn r om om
def runB:Ob:= .box [.sl .ro xG,.sl .ro (tabsS.map GTable.row),.mp 0,.mp 1,.mp 2]
def runS (a b:Mp (List UInt8)) (c:Mp Int):St:= [a.ob .str,b.ob .str,c.ob (V.int .i64),runB]
theorem xX1 {α:Type} {g:α->V} (hg: ∀v,ltA 0 (g v)=true) (n:Nat): ∀W:List (Pl×α),(kvE g W).all (ltA n)=true
 | []=>rfl
 |e::W=>by
  rw[kvE,Ar,Ar,xX1 hg n W,yL8 (A4 _) (hg e.2)]
  rfl
theorem xX3 {α:Type} {g:α->V} (hg: ∀v,ltA 0 (g v)=true) (n:Nat) (m:Mp α):ltOb n (m.ob g)=true:=xX1 hg n m.W
theorem xQ (n:Nat) (h:3<=n) (a b:Mp (List UInt8)) (c:Mp Int):(runS a b c).all (ltOb n)=true:=by
 have h0:decide (0<n)=true:=decide_eq_true om
 have h1:decide (1<n)=true:=decide_eq_true om
 have h2:decide (2<n)=true:=decide_eq_true om
 simp only[runS,Ar,Ch,Cm,xX3 (g:=V.str) (fun _=>rfl),xX3 (g:=V.int .i64) (fun _=>rfl),B5]
 simp[runB,ltOb,ltC,ltK,h0,h1,h2]
def cntP (c:Mp Int) (p:Pl):Int:=(c.get p).getD 0
def zq7 (rng:Int) (key data:List UInt8):Bool:=
 decide ((ofS rng).2.2=0)&&(decide ((rowF tabsS (ofS rng).1 data).2=0)&&decide (keyS (ofS rng).1.toNat (tabsS.getD (ofS rng).1.toNat noT) (rowF tabsS (ofS rng).1 data).1=(rng,key,0)))
def tkS (m:Mp (List UInt8)×Mp (List UInt8)×Mp Int):St:=runS m.1 m.2.1 m.2.2
abbrev M3:=Mp (List UInt8)×Mp (List UInt8)×Mp Int
def ya1 (p:Pl) (data:List UInt8) (m:M3):M3:=
 if cntP m.2.2 p=0/\zq7 p.1 p.2 data=true then(m.1.put p data,m.2.1.put p data,m.2.2.put p (cntP m.2.2 p+1))else(m.1,m.2.1,m.2.2.put p (cntP m.2.2 p+1))
theorem xK6 {u:Nat} (h:u<18446744073709551616): -9223372036854775808<=zagF u/\zagF u<=9223372036854775807:=by
 unfold zagF;split<;>omega
theorem ya5:(v0:GValue).ok:=⟨dC,dC,dC⟩
theorem mkOk {k n:Int} {s:List UInt8} (h1: -9223372036854775808<=k/\k<=9223372036854775807) (h2: -9223372036854775808<=n/\n<=9223372036854775807) (h3:s.length<=maxLen):(GValue.mk k n s).ok:=⟨h1,h2,h3⟩
theorem xr8: ∀b:List UInt8,(zg6 b).v.ok
 | []=>ya5
 |c::rest=>by
  rw[zg6]
  unfold zt0
  split
  .exact ya5
  .split
   .unfold zg1
    split
    .exact ya5
    .split
     .exact ya5
     .have:=((c::rest).getD 1 0).toNat_lt
      exact mkOk (k:=1) (n:=((((c::rest).getD 1 0).toNat:Nat):Int)) (s:= []) dC ⟨om,om⟩ dC
   .split
    .split
     .exact ya5
     .exact mkOk (k:=2) (s:= []) dC (xK6 (zT2 rest 0 0 dC dC)) dC
    .split
     .split
      .exact ya5
      .split
       .exact ya5
       .rename_i h
        exact mkOk (k:=3) (n:=0) dC dC (by unfold maxLen;omega)
     .exact ya5
theorem xi3: ∀(n:Nat) (b:List UInt8) (l:List GValue),rowG n b=some l->l.length=n/\ ∀v∈l,v.ok
 |0,b,l,h=>by
  rw[rowG]at h
  split at h
  .cases h;exact⟨rfl,fun v hv=>by cases hv⟩
  .cases h
 |n+1,b,l,h=>by
  rw[rowG]at h
  split at h
  .rw[B0]at h
   obtain⟨l',h1,rfl⟩:=h
   obtain⟨h2,h3⟩:=xi3 n _ l' h1
   refine⟨by simp[h2],fun v hv=> ?_⟩
   rcases Ae.1 hv with rfl|hv
   .exact xr8 b
   .exact h3 v hv
  .cases h
theorem xi2 (t:Nat) (data:List UInt8):(rowF tabsS t data).1.length<=maxLen/\ ∀v∈(rowF tabsS t data).1,v.ok:=by
 have h0:([]:List GValue).length<=maxLen/\ ∀v∈([]:List GValue),v.ok:=⟨A4 _,fun v hv=>by cases hv⟩
 unfold rowF
 split
 .rename_i h
  have hc:=(by decide: ∀T∈tabsS,T.cols.length<=maxLen) (tabsS[(t:Int).toNat]'om) (Aa _)
  unfold R.rowC
  split
  .unfold rowR
   split
   .rename_i l hl
    obtain⟨h1,h2⟩:=xi3 _ _ l hl
    exact⟨by rw[h1];exact hc,h2⟩
   .exact h0
  .exact h0
 .exact h0
theorem wd8 (g:Nat) (hg:g<1000) (key data:List UInt8) (hd:data.length<=maxB) (a b:Mp (List UInt8)) (sn:Mp Int) (ha:a.ok) (aj:b.ok) (hs:sn.ok) (a8:sn.at (g,key)=none->a.at (g,key)=none/\b.at (g,key)=none) (aw: ∀i v,sn.at (g,key)=some (i,v)->1<=v/\v<=1000000):
  VCalls prog 41 [.ptr 3 0,.int .i64 g,.agg [.str key,.str data]] (runS a b sn) (fun r s=>r= .tup []/\s=tkS (ya1 (g,key) data (a,b,sn))):=by
 obtain⟨M,hM⟩:=eX (ya1 (g,key) data (a,b,sn))
 rw[hM]
 have ret: ∀(a' b':Mp (List UInt8)) (ak:Mp Int) (σl:St),M=(a',b',ak)->wret (some (.tup [])) 4 (fun r s=>r= .tup []/\s=tkS M) (a'.ob .str::b'.ob .str::ak.ob (V.int .i64):: .box [.sl .ro xG,.sl .ro (tabsS.map GTable.row),.mp 0,.mp 1,.mp 2]::σl):=fun a' b' ak σl h=>by
  subst h
  exact xA 4 rfl rfl (xQ 4 dC a' b' ak) (A5 _) (zC rfl) ⟨rfl,rfl⟩
 have aA:=Of_w g hg
 refine iV 4 func41 ntmps41 results41 fun c hc hb=> ?_
 refine zA ?_
 simp[go_sem,runS,runB]
 refine pC aA ?_
 simp[go_sem,ofV]
 obtain⟨ob,aq⟩: ∃ob:Ob->R,ob=fun o=>xR (some (kPl,.int .i64 0)) [o] (.mp 0) (plV (g,key)) false:=⟨_,rfl⟩
 obtain⟨k1,af⟩:=eX (cntP sn (g,key))
 cases aa:sn.at (g,key)with
 |none=>
  have ab:=Mp.get_none aa
  have ag:k1=0:=by rw[<-af];unfold cntP;rw[ab];rfl
  subst ag
  refine yE8 [(5,1),(7,3)] ⟨0,6,[2],some (2,ob)⟩ sm kR kR ?_
  simp[go_sem]
  refine ym1 (kv:=plV (g,key)) (id:=2) (n0:=⟨0,6,[2],some (2,ob)⟩) sg (by simp[go_sem,plV]) Tryz.mapT125 aq rfl (Nat.lt_of_sub_eq_succ rfl) (yc2 (m:=sn) rfl (g,key) false) ?_
  simp[go_sem,ab]
  refine zo4 ?_ ?_
  .simp[go_sem,yq6 hs aa]
   refine⟨sm,fun _=> .inr ?_⟩
   exact Kp.of_ex (k:=⟨0,6,[2],some (2,ob)⟩) (σ:= [a.ob .str,b.ob .str,sn.ob (V.int .i64),runB,.box [.str key,.str data],.box [.int .i64 g,.str key]]) (id:=2) (o:=sn.ob (V.int .i64)) (o':=(sn.ent (g,key) 0).ob (V.int .i64)) rfl rfl (fun q hq _=>by cases hq;rw[aq];first|done|exact xw8 rfl aa)
  simp[go_sem,yq6 hs aa,zY7 hs]
  obtain⟨i1,ar⟩:=Mp.put_at sn (g,key) 1
  by_cases he:(ofS g).2.2=0
  rotate_left
  .have ad:((ofS g).2.2 !=0)=true:=by simpa using he
   refine yS [] 6 sm kR kR ?_
   simp[go_sem,ad]
   exact ret a b _ _ (by rw[<-hM];unfold ya1 zq7;simp[af,he])
  have ad:((ofS g).2.2 !=0)=false:=by simpa using he
  have e1:(sn.put (g,key) 1).ob (V.int .i64)= .mp (kvE (V.int .i64) (sn.put (g,key) 1).W) (sn.put (g,key) 1).bs (sn.put (g,key) 1).clk:=rfl
  refine yS [] 6 sm kR kR ?_
  simp[go_sem,ad,e1,zb5,ar,zc3,zd4]
  rw[<-e1]
  obtain⟨ax,ay⟩:=a8 aa
  obtain⟨tn,T,az,hT⟩: ∃(tn:Nat) (T:GTable),(ofS g).1=(tn:Int)/\tabsS[tn]? =some T:=by
   unfold ofS at he⊢
   split at he<;>rename_i q0
   .rw[if_pos q0];exact⟨0,_,rfl,rfl⟩
   .rw[if_neg q0]
    split at he<;>rename_i q1
    .rw[if_pos q1];exact⟨0,_,rfl,rfl⟩
    .rw[if_neg q1]
     split at he<;>rename_i q2
     .rw[if_pos q2];exact⟨1,_,rfl,rfl⟩
     .rw[if_neg q2]
      split at he<;>rename_i q3
      .rw[if_pos q3];exact⟨2,_,rfl,rfl⟩
      .exact absurd he dC
  have aB:tabsS.getD tn noT=T:=by rw[A7,hT];rfl
  have an:=xV8 xG tabsS tn data hd dC
  have ah:=xi2 tn data
  obtain⟨rf,a1⟩:=eX (rowF tabsS tn data)
  rw[a1]at an ah
  have ao:=yv3 tn T hT rf.1 ah.1 ah.2
  obtain⟨ks,a6⟩:=eX (keyS tn T rf.1)
  rw[a6]at ao
  have aC:zq7 g key data=(decide (rf.2=0)&&decide (ks=(((g:Nat):Int),key,0))):=by
   unfold zq7
   rw[az,Ay,aB,a1,a6,he]
   simp
  have ae:M=if zq7 g key data=true then(a.put (g,key) data,b.put (g,key) data,sn.put (g,key) 1)else(a,b,sn.put (g,key) 1):=by
   rw[<-hM];unfold ya1;rw[af];simp
  rw[aC]at ae
  obtain⟨kr,kk,ke⟩:=ks
  refine zA ?_
  refine yS [(7,0)] 6 sm kR kR ?_
  simp[go_sem,az]
  refine pD an ?_
  simp[go_sem,rowV]
  by_cases r0:rf.2=0
  rotate_left
  .have au:(rf.2 !=0)=true:=by simpa using r0
   simp[go_sem,au]
   exact ret a b _ _ (by rw[ae];simp[r0])
  have au:(rf.2 !=0)=false:=by simpa using r0
  simp[go_sem,au]
  refine pC ao ?_
  simp[go_sem,keyV]
  by_cases k0:ke=0
  rotate_left
  .have ai:(ke==0)=false:=by simpa using k0
   simp[go_sem,ai]
   exact ret a b _ _ (by rw[ae];simp[k0])
  have ai:(ke==0)=true:=by simpa using k0
  by_cases k2:kr=((g:Nat):Int)
  rotate_left
  .have al:(kr==((g:Nat):Int))=false:=by simpa using k2
   simp[go_sem,ai,al]
   exact ret a b _ _ (by rw[ae];simp[k2])
  have al:(kr==((g:Nat):Int))=true:=by simpa using k2
  by_cases k3:kk=key
  rotate_left
  .have av:(kk==key)=false:=by simpa using k3
   simp[go_sem,ai,al,av]
   exact ret a b _ _ (by rw[ae];simp[k3])
  have av:(kk==key)=true:=by simpa using k3
  simp[go_sem,ai,al,av]
  refine yE8 [(14,3),(16,3),(17,3),(19,3)] ⟨0,6,[0,1],none⟩ sm kR kR ?_
  simp[go_sem]
  have keep: ∀(τ:St) (i:Nat) (o o':Ob),([0,1]:List Nat).contains i=true->τ[i]? =some o->Kp.of ⟨0,6,[0,1],none⟩ (τ.set i o')=Kp.of ⟨0,6,[0,1],none⟩ τ:=fun τ i o o' h1 h2=>Kp.of_ex (k:=⟨0,6,[0,1],none⟩) h1 h2 (fun p hp _=>by cases hp)
  refine zo4 ?_ ?_
  .simp[go_sem,zL1 ha ax]
   refine⟨sm,fun _=> .inr ?_⟩
   exact keep [a.ob .str,b.ob .str,(sn.put (g,key) 1).ob (V.int .i64),runB,.box [.str key,.str data],.box [.int .i64 g,.str key]] 0 _ ((a.ent (g,key) []).ob .str) rfl rfl
  simp[go_sem,zL1 ha ax]
  refine zC6 ?_ ?_
  .simp[go_sem,zx3 ha]
   refine⟨sm,fun _=> .inr ?_⟩
   exact keep [(a.ent (g,key) []).ob .str,b.ob .str,(sn.put (g,key) 1).ob (V.int .i64),runB,.box [.str key,.str data],.box [.int .i64 g,.str key]] 0 _ ((a.put (g,key) data).ob .str) rfl rfl
  simp[go_sem,zx3 ha]
  refine zo4 ?_ ?_
  .simp[go_sem,zL1 aj ay]
   refine⟨sm,fun _=> .inr ?_⟩
   exact keep [(a.put (g,key) data).ob .str,b.ob .str,(sn.put (g,key) 1).ob (V.int .i64),runB,.box [.str key,.str data],.box [.int .i64 g,.str key]] 1 _ ((b.ent (g,key) []).ob .str) rfl rfl
  simp[go_sem,zL1 aj ay]
  refine zC6 ?_ ?_
  .simp[go_sem,zx3 aj]
   refine⟨sm,fun _=> .inr ?_⟩
   exact keep [(a.put (g,key) data).ob .str,(b.ent (g,key) []).ob .str,(sn.put (g,key) 1).ob (V.int .i64),runB,.box [.str key,.str data],.box [.int .i64 g,.str key]] 1 _ ((b.put (g,key) data).ob .str) rfl rfl
  simp[go_sem,zx3 aj]
  exact ret (a.put (g,key) data) (b.put (g,key) data) _ _ (by rw[ae];simp[r0,k0,k2,k3])
 |some q=>
  obtain⟨i,v⟩:=q
  obtain⟨aE,aF⟩:=aw i v aa
  have ab:=Mp.get_some aa
  have ag:k1=v:=by rw[<-af];unfold cntP;rw[ab];rfl
  subst ag
  have aD:IntKind.i64.wrap (k1+1)=k1+1:=i64_id om om
  have a7:M=(a,b,sn.put (g,key) (k1+1)):=by
   rw[<-hM];unfold ya1;rw[af,if_neg (fun h=>om)]
  refine yE8 [(5,1),(7,3)] ⟨0,6,[2],some (2,ob)⟩ sm kR kR ?_
  simp[go_sem]
  refine ym1 (kv:=plV (g,key)) (id:=2) (n0:=⟨0,6,[2],some (2,ob)⟩) sg (by simp[go_sem,plV]) Tryz.mapT125 aq rfl (Nat.lt_of_sub_eq_succ rfl) (yc2 (m:=sn) rfl (g,key) false) ?_
  simp[go_sem,ab,aD]
  refine zo4 ?_ ?_
  .simp[go_sem,yq5 hs aa]
   trivial
  simp[go_sem,yq5 hs aa,yy3 hs aa]
  obtain⟨i1,ar⟩:=Mp.put_at sn (g,key) (k1+1)
  by_cases he:(ofS g).2.2=0
  rotate_left
  .have ad:((ofS g).2.2 !=0)=true:=by simpa using he
   refine yS [] 6 sm kR kR ?_
   simp[go_sem,ad]
   exact ret a b _ _ a7
  have ad:((ofS g).2.2 !=0)=false:=by simpa using he
  have e1:(sn.put (g,key) (k1+1)).ob (V.int .i64)= .mp (kvE (V.int .i64) (sn.put (g,key) (k1+1)).W) (sn.put (g,key) (k1+1)).bs (sn.put (g,key) (k1+1)).clk:=rfl
  have h1:decide (k1+1>1)=true:=decide_eq_true om
  have aG:decide (1<k1+1)=true:=decide_eq_true om
  refine yS [] 6 sm kR kR ?_
  simp[go_sem,ad,e1,zb5,ar,zc3,zd4,h1]
  exact ret a b _ _ a7
structure LnOk (x:Ln):Prop where
 tab: ∃(tn:Nat) (T:GTable),(ofS x.r).1=(tn:Int)/\tabsS[tn]? =some T/\mayT T.cols x.v=0
 err:(ofS x.r).2.2=0
 ok: ∀v∈x.v,v.ok
structure NowOk (b:Mp (List UInt8)) (l:List Ln):Prop where
 ok:b.ok
 rise:Rise (l.map Ln.at)
 perm:b.W.Perm (l.map fun x=>(x.at,yO x.v))
 rows: ∀x∈l,LnOk x
theorem Rise.nodup {l:List Pl} (h:Rise l):l.Nodup:=h.imp fun{a b} aa e=>by subst e;rw[zL7]at aa;cases aa
theorem zd7 (l:List Ln) (x:Ln):(zC5 l x).Perm (x::l):=by
 unfold zC5
 have h:=Ce (p:=fun y:Ln=>xB y.at x.at) (l:=l)
 have h2:(List.takeWhile (fun y:Ln=>xB y.at x.at) l++x::List.dropWhile (fun y:Ln=>xB y.at x.at) l).Perm (x::(List.takeWhile (fun y:Ln=>xB y.at x.at) l++List.dropWhile (fun y:Ln=>xB y.at x.at) l)):=E0
 rw[h]at h2
 exact h2
theorem atF_iff {l:List Ln}:atF l p=true↔p∈l.map Ln.at:=by
 unfold atF
 rw[Cn,Ac]
 exact⟨fun⟨x,h1,h2⟩=>⟨x,h1,by simpa using h2⟩,fun⟨x,h1,h2⟩=>⟨x,h1,by simpa using h2⟩⟩
theorem zH2 {p:Pl}: ∀{l:List Ln},Rise (l.map Ln.at)->p∉l.map Ln.at-> ∀y∈l.dropWhile (fun y=>xB y.at p),xB p y.at=true
 | [],_,_,y,hy=>by simp at hy
 |z::l,hr,hn,y,hy=>by
  unfold Rise at hr
  rw[Aj,Bw]at hr
  rw[List.dropWhile_cons]at hy
  by_cases q:xB z.at p=true
  .rw[if_pos q]at hy
   exact zH2 (l:=l) hr.2 (fun h=>hn (An _ h)) y hy
  .rw[if_neg q]at hy
   have hz:xB p z.at=true:=by
    rcases zB1 z.at p with r|r|r
    .exact absurd r q
    .exact absurd (Ae.2 (.inl r.symm)) hn
    .exact r
   rcases Ae.1 hy with rfl|hy
   .exact hz
   .exact zI2 hz (hr.1 _ (Ac.2 ⟨y,hy,rfl⟩))
theorem zz9 {α:Type} {p:α->Bool}: ∀{l:List α},∀y∈l.takeWhile p,p y=true
 | [],y,hy=>by simp at hy
 |z::l,y,hy=>by
  rw[List.takeWhile_cons]at hy
  by_cases q:p z=true
  .rw[if_pos q]at hy
   rcases Ae.1 hy with rfl|hy
   .exact q
   .exact zz9 (l:=l) y hy
  .rw[if_neg q]at hy;cases hy
theorem zF6 {l:List Ln} {x:Ln} (h:Rise (l.map Ln.at)) (hn:atF l x.at=false):Rise ((zC5 l x).map Ln.at):=by
 have aa:x.at∉l.map Ln.at:=fun q=>by rw[atF_iff.2 q]at hn;cases hn
 have hd:=zH2 h aa
 have ht: ∀y∈l.takeWhile (fun y:Ln=>xB y.at x.at),xB y.at x.at=true:=zz9
 have hl:=Ce (p:=fun y:Ln=>xB y.at x.at) (l:=l)
 unfold zC5
 rw[<-hl]at h
 revert hd ht h
 generalize l.takeWhile (fun y:Ln=>xB y.at x.at)=t
 generalize l.dropWhile (fun y:Ln=>xB y.at x.at)=d
 intro h hd ht
 unfold Rise at h⊢
 rw[Ca,Cd]at h
 rw[Ca,Aj,Cd,Bw]
 obtain⟨h1,h2,h3⟩:=h
 refine⟨h1,⟨fun p hp=> ?_,h2⟩,fun p hp q hq=> ?_⟩
 .obtain⟨y,hy,rfl⟩:=Ac.1 hp;exact hd y hy
 .obtain⟨y,hy,rfl⟩:=Ac.1 hp
  rcases Ae.1 hq with rfl|hq
  .exact ht y hy
  .exact h3 _ (Ac.2 ⟨y,hy,rfl⟩) _ hq
theorem NowOk.at_none {l:List Ln} (h:NowOk b l):b.at p=none↔atF l p=false:=by
 constructor
 .intro q
  cases r:atF l p with
  |false=>rfl
  |true=>
   obtain⟨x,hx,he⟩:=Ac.1 (atF_iff.1 r)
   have:(p,yO x.v)∈b.W:=h.perm.mem_iff.2 (Ac.2 ⟨x,hx,by rw[he]⟩)
   exact absurd rfl (zL4 q _ this)
 .intro q
  cases r:b.at p with
  |none=>rfl
  |some w=>
   have hm:(p,w.2)∈b.W:=As (zi2 (W:=b.W) (i:=w.1) (v:=w.2) r)
   obtain⟨x,hx,he⟩:=Ac.1 (h.perm.mem_iff.1 hm)
   have:x.at=p:=congrArg Prod.fst he
   rw[atF_iff.2 (Ac.2 ⟨x,hx,this⟩)]at q
   cases q
theorem NowOk.ins {l:List Ln} (h:NowOk b l) {x:Ln} (hx:LnOk x) (hn:atF l x.at=false):NowOk (b.put x.at (yO x.v)) (zC5 l x):=by
 have hb:=h.at_none.2 hn
 refine⟨Mp.put_ok h.ok _ _,zF6 h.rise hn, ?_,fun y hy=> ?_⟩
 .have e:(b.put x.at (yO x.v)).W=b.W++ [(x.at,yO x.v)]:=by unfold Mp.put;rw[hb]
  rw[e]
  have h1:=((zd7 l x).map fun x:Ln=>(x.at,yO x.v)).symm
  refine List.Perm.trans ?_ h1
  rw[Aj]
  exact(List.perm_append_singleton _ _).trans (h.perm.cons _)
 .rcases Ae.1 ((zd7 l x).mem_iff.1 hy)with rfl|hy
  .exact hx
  .exact h.rows y hy
theorem yb7: ∀(r:List GExpr) (acc:List GValue),(∀e∈r,EOk e)->(∀v∈acc,v.ok)->(evsX noT [] r acc).2=0->(evsX noT [] r acc).1.length=acc.length+r.length/\ ∀v∈(evsX noT [] r acc).1,v.ok
 | [],acc,_,ha,_=>⟨rfl,ha⟩
 |e::r,acc,he,ha,h=>by
  rw[evsX]at h⊢
  by_cases q:(evR noT [] e).2=0
  .rw[if_neg (fun h=>h q)]at h⊢
   have hv:(evR noT [] e).1.ok:=by
    have:=xx7 (he e sm) (by rw[<-yJ4];exact q)
    rw[yJ4]
    exact(xI6 this).1
   have ih:=yb7 r (acc++ [(evR noT [] e).1]) (fun x hx=>he x (by simp[hx])) (fun v aa=>by
    rcases Av.1 aa with h|h
    .exact ha v h
    .simp at h;subst h;exact hv) h
   exact⟨by rw[ih.1];simp;omega,ih.2⟩
  .rw[if_pos q]at h;exact absurd h q
def out0:List V:= [.sl .full [],.int .i64 0]
def insR (a:Mp (List UInt8)) (sn:Mp Int) (cnt:Int) (M:List Ln×Int) (r:V) (s:St):Prop:=
 ∃(b':Mp (List UInt8)),s=runS a b' sn/\((M.2≠0/\r= .tup [.agg (Ot.row ⟨0,[]⟩),.int .i64 M.2])∨(M.2=0/\r= .tup [.agg (Ot.row ⟨cnt,[]⟩),.int .i64 0]/\NowOk b' M.1))
theorem xE8 {r:Int} {k d:List UInt8} (h:b.at (r,k)=none):Ob.mp (kvE V.str b.W++ [.agg [.int .i64 r,.str k],.str d]) (b.bs++ [b.clk]) (b.clk+1)=(b.put (r,k) d).ob V.str:=by
 unfold Mp.put Mp.ob
 rw[h]
 show _=Ob.mp (kvE V.str (b.W++ [((r,k),d)])) _ _
 rw[<-yt1]
 rfl
theorem yc0 (tn:Nat) (T:GTable) (hT:tabsS[tn]? =some T) (row:List GValue) (h:(keyS tn T row).2.2=0):mayT T.cols row=0/\(ofS (keyS tn T row).1).1=(tn:Int)/\(ofS (keyS tn T row).1).2.2=0:=by
 obtain⟨aa,_⟩:=A3.1 hT
 have h3:tn<3:=aa
 unfold keyS at h⊢
 by_cases h1:mayT T.cols row≠0
 .rw[if_pos h1]at h;exact absurd h h1
 .rw[if_neg h1]at h⊢
  refine⟨Classical.not_not.1 h1, ?_⟩
  unfold zS1
  generalize row.getD 0 zeroV=x at h⊢
  match tn,h3 with
  |0,_=>
   by_cases h2:x.n=0∨x.n=1
   .rw[if_neg (fun q=>q.2 h2)]
    rcases h2 with h2|h2
    .simp[yV,ofS,h2]
    .simp[yV,ofS,h2]
   .rw[if_pos ⟨rfl,h2⟩]at h;cases h
  |1,_=>simp[yV,ofS]
  |2,_=>simp[yV,ofS]
theorem yP8 (tn:Nat) (T:GTable) (hT:tabsS[tn]? =some T) (st:GStmt) (a1:SOk st) (a b:Mp (List UInt8)) (sn:Mp Int) (l:List Ln) (au:NowOk b l):
  VCalls prog 89 [.ptr 3 0,.int .i64 tn,.agg st.row] (runS a b sn) (insR a sn st.rows.length (insF tn T st.rows l)):=by
 obtain⟨R,hR⟩:=eX st.rows
 obtain⟨a6,av⟩:=a1.rows
 rw[hR]at a6 av⊢
 generalize hM:insF tn T R l=M
 have bad: ∀(b':Mp (List UInt8)) (e:Int) (σl:St),M.2=e->e≠0->wret (some (.tup [.agg [.sl .full [],.int .i64 0],.int .i64 e])) 4 (insR a sn R.length M) (a.ob .str::b'.ob .str::sn.ob (V.int .i64):: .box [.sl .ro xG,.sl .ro (tabsS.map GTable.row),.mp 0,.mp 1,.mp 2]::σl):=fun b' e σl h1 h2=>
  xA 4 (s:=runS a b' sn) (r:= .tup [.agg (Ot.row ⟨0,[]⟩),.int .i64 e]) rfl rfl (xQ 4 dC a b' sn) (A5 _) (wD ⟨zc7 ⟨yJ,zT rfl,tV⟩,zb8 rfl,tV⟩) ⟨b',rfl,.inl ⟨by rw[h1];exact h2,by rw[h1]⟩⟩
 have an: ∀(b':Mp (List UInt8)) (n:Nat),6<=n->([a.ob .str,b'.ob .str,sn.ob (V.int .i64),.box [.sl .ro xG,.sl .ro (tabsS.map GTable.row),.mp 0,.mp 1,.mp 2],.box st.row,.box out0]:St).all (ltOb n)=true:=fun b' n hn=>by
  have h:=xQ n om a b' sn
  simp only[runS,runB,Ar,Ch,Cm]at h⊢
  rw[A6,A6,A6]at h⊢
  refine⟨h.1,h.2.1,h.2.2.1, ?_⟩
  rw[A6]
  exact⟨h.2.2.2,by simp[ltOb,ltC,ltK,GStmt.row,out0]⟩
 have aj: ∀(b':Mp (List UInt8)) (k:Nat),([a.ob .str,b'.ob .str,sn.ob (V.int .i64),.box [.sl .ro xG,.sl .ro (tabsS.map GTable.row),.mp 0,.mp 1,.mp 2],.box st.row,.box out0,.app k 3]:St).all (ltOb 7)=true:=fun b' k=>by
  have h:=an b' 7 dC
  simp only[Ar,Ch,Cm]at h⊢
  rw[show ltOb 7 (.app k 3)=true from rfl,Cm]
  exact h
 refine iV 4 func89 ntmps89 results89 fun c hc hb=> ?_
 refine zA ?_
 simp[go_sem,runS,runB,hR]
 refine zH (S:=Nat×Mp (List UInt8)×List Ln) [0,1,5,6,22,23,24] (fun u=> [.ptr 3 0,.int .i64 tn,.ptr 4 0,.ptr 5 0,.sl .ro (R.map fun(l:List GExpr)=> [V.sl .ro (l.map GExpr.row)]),.int .i64 R.length,.int .i64 u.1])
  (fun u=> [a.ob .str,u.2.1.ob .str,sn.ob (V.int .i64),.box [.sl .ro xG,.sl .ro (tabsS.map GTable.row),.mp 0,.mp 1,.mp 2],.box st.row,.box out0]) (fun u=>R.length - u.1)
  (fun u=>u.1<=R.length/\NowOk u.2.1 u.2.2/\insF tn T (R.drop u.1) u.2.2=M) hc hb (0,b,l) ⟨A4 _,au,hM⟩ ?_ ?_
 .exact at_n 6 (by simp[go_sem,hR,out0]) rfl (an b 6 dC) dC (zF sg rfl)
 rintro⟨i,b1,l1⟩ ⟨hi,af,aa⟩
 simp only at hi af aa
 by_cases q:i<R.length
 rotate_left
 .rw[Ab om,insF]at aa
  subst aa
  refine zA ?_
  simp[go_sem,q,hR,out0]
  exact xA 4 (s:=runS a b1 sn) (r:= .tup [.agg (Ot.row ⟨R.length,[]⟩),.int .i64 0]) rfl rfl (xQ 4 dC a b1 sn) (A5 _) (wD ⟨zc7 ⟨yJ,zT rfl,tV⟩,zb8 rfl,tV⟩) ⟨b1,rfl,.inr ⟨rfl,rfl,af⟩⟩
 have ei:=zQ q om
 obtain⟨x,hx⟩:=eX (R[i])
 obtain⟨aF,aw⟩:=av x (hx▸Aa q)
 have ax:=yb7 x [] aw (fun v hv=>by cases hv)
 rw[A8 q,hx,insF]at aa
 obtain⟨E,hE⟩:=eX (evsX noT [] x [])
 rw[hE]at aa ax
 refine zA ?_
 simp[go_sem,q,hx]
 refine zi6 10 3 dC sg ?_
 refine zH (S:=Nat×List GValue) [0,1,5,6,10,22,23,24,28,29,30] (fun u=> [.ptr 3 0,.int .i64 tn,.ptr 4 0,.ptr 5 0,.sl (.app 6) (u.2.map GValue.row),.sl .ro (R.map fun(l:List GExpr)=> [V.sl .ro (l.map GExpr.row)]),.int .i64 R.length,.int .i64 i,.sl .ro (x.map GExpr.row),.int .i64 x.length,.int .i64 u.1])
  (fun u=> [a.ob .str,b1.ob .str,sn.ob (V.int .i64),.box [.sl .ro xG,.sl .ro (tabsS.map GTable.row),.mp 0,.mp 1,.mp 2],.box st.row,.box out0,.app u.2.length 3]) (fun u=>x.length - u.1)
  (fun u=>u.1<=x.length/\u.2.length<=u.1/\evsX noT [] (x.drop u.1) u.2=E) hc hb (0,[]) ⟨A4 _,A5 _,hE⟩ ?_ ?_
 .exact at_n 7 (by simp[go_sem,out0]) rfl (aj b1 _) dC (zF sg rfl)
 rintro⟨j,acc⟩ ⟨hj,a7,ab⟩
 simp only at hj a7 ab
 by_cases qj:j<x.length
 .have ej:=zQ qj om
  obtain⟨e,he⟩:=eX (x[j])
  have a8:=aw e (he▸Aa qj)
  rw[A8 qj,he,evsX,yJ4]at ab
  have ag:=yw9 e a8
  obtain⟨kv,aA⟩:=eX (evN e)
  rw[aA]at ab ag
  refine zA ?_
  simp[go_sem,qj,he]
  refine zJ ag cB ⟨zm7 ⟨zT rfl,yJ,zT rfl,zT rfl,zT rfl,yJ,yJ,yJ,zT rfl,zT rfl,zT rfl,tV⟩,zK,zN sg (by rw[GExpr.row_eq];rfl)⟩ rfl ?_
  simp[go_sem,valP]
  by_cases q2:kv.2=0
  rotate_left
  .have ao:(kv.2 !=0)=true:=by simpa using q2
   rw[if_pos q2]at ab
   subst ab
   simp only at aa
   rw[if_pos q2]at aa
   simp[go_sem,ao,out0]
   exact bad b1 kv.2 _ (by rw[<-aa]) q2
  have ao:(kv.2 !=0)=false:=by simpa using q2
  rw[if_neg (fun h=>h q2)]at ab
  simp[go_sem,ao]
  refine zI ⟨om,zV rfl⟩ ?_
  simp[go_sem,ej]
  exact zG (j+1,acc++ [kv.1]) ⟨by show x.length - (j+1)<x.length - j;omega,⟨qj,by show(acc++ [kv.1]).length<=j+1;simp;omega,ab⟩,at_n 7 (by simp[go_sem,out0]) rfl (aj b1 _) dC (zF sg rfl)⟩
 rw[Ab om,evsX]at ab
 subst ab
 obtain⟨_,ai⟩:=ax rfl
 simp only at aa ai
 rw[if_neg (fun h=>h rfl)]at aa
 have ak:=yv3 tn T hT acc (by unfold maxLen;omega) ai
 have ah:=yc0 tn T hT acc
 obtain⟨⟨kr,kk,ke⟩,aB⟩: ∃ks,keyS tn T acc=ks:=⟨_,rfl⟩
 rw[aB]at aa ak ah
 simp only at aa ah
 refine zA ?_
 simp[go_sem,qj]
 refine pC ak ?_
 simp[go_sem,keyV]
 by_cases k0:ke=0
 rotate_left
 .have aq:(ke !=0)=true:=by simpa using k0
  rw[if_pos k0]at aa
  simp[go_sem,aq,out0]
  exact bad b1 ke _ (by rw[<-aa]) k0
 have aq:(ke !=0)=false:=by simpa using k0
 rw[if_neg (fun h=>h k0)]at aa
 obtain⟨al,aC,aD⟩:=ah k0
 have aE:=zB2 ((by decide: ∀T∈tabsS,T.cols.length<=20) T (As hT)) ai al
 have ar:=xt0 acc aE
 have eB:b1.ob .str= .mp (kvE .str b1.W) b1.bs b1.clk:=rfl
 simp[go_sem,aq]
 cases ae:b1.at (kr,kk)with
 |some w=>
  have hA:atF l1 (kr,kk)=true:=by
   cases r:atF l1 (kr,kk)with
   |true=>rfl
   |false=>rw[af.at_none.2 r]at ae;cases ae
  rw[if_pos hA]at aa
  have ad:idxW (kr,kk) b1.W=some w:=ae
  refine yS [] 8 sm kR kR ?_
  simp[go_sem,eB,zb5,ad,zc3,zd4,out0]
  rw[<-eB]
  exact bad b1 18 _ (by rw[<-aa]) dC
 |none=>
  have hA:=af.at_none.1 ae
  rw[if_neg (by rw[hA];decide)]at aa
  have ad:idxW (kr,kk) b1.W=none:=ae
  have ay:=xE8 (d:=yO acc) ae
  have az:=af.ins (x:=⟨kr,kk,acc⟩) ⟨⟨tn,T,aC,hT,al⟩,aD,ai⟩ hA
  refine yS [] 8 sm kR kR ?_
  simp[go_sem,eB,zb5,ad,zc3,zd4]
  refine zA ?_
  refine yS [(6,0)] 8 sm kR kR ?_
  simp[go_sem]
  refine pD ar ?_
  simp[go_sem,zb5,ad,zc3,zd4,ay,ei]
  exact zG (i+1,b1.put (kr,kk) (yO acc),zC5 l1 ⟨kr,kk,acc⟩) ⟨by show R.length - (i+1)<R.length - i;omega,⟨q,az,aa⟩,at_n 6 (by simp[go_sem,out0]) rfl (an _ 6 dC) dC (zF sg rfl)⟩
theorem yH6 (l:List GValue) (hl:l.length<=10000) (hz:l≠ []):VCalls prog 160 [.sl .ro (l.map GValue.row)] [] (fun r s=>r= .lsv 0 3 l.length 0 l.length/\s= [.lst (l.map GValue.row) 3]):=by
 refine iV 0 func160 ntmps160 results160 fun c hc hb=> ?_
 refine zr9 7 dC ?_
 refine zA ?_
 have hp:0<l.length:=by cases l with
  |nil=>exact absurd rfl hz
  |cons a l=>simp
 have hu:uni 3 (l.map GValue.row):=by
  intro r hr
  obtain⟨v,_,rfl⟩:=Ac.1 hr
  rfl
 simp[go_sem,hp]
 refine zI ⟨om,by simp[uni],hu⟩ ?_
 simp[go_sem]
 exact yl7 sm ⟨rfl,rfl⟩
theorem yx0 (T:GTable) (hT:T.cols.length<=maxLen) (row:List GValue) (hv: ∀v∈row,v.ok) (e:GExpr) (he:EOk e):Pure prog 106 [.agg T.row,.sl .ro (row.map GValue.row),.agg e.row] (valP (evR T row e)):=by
 have an:=yx1 T hT e he
 have hok:= @yt4 T row
 generalize hM:evR T row e=M
 unfold evR at hM
 have ret: ∀(v:GValue) (e:Int) (σ:St),(v,e)=M->wret (some (.tup [.agg v.row,.int .i64 e])) 0 (fun r s=>r=valP M/\s= []) σ:=fun v e σ h=>zo0 h
 refine iV 0 func106 ntmps106 results106 fun c hc hb=> ?_
 refine zA ?_
 simp[go_sem]
 refine zJ an cB (zN sg (by rw[GExpr.row_eq];rfl)) rfl ?_
 simp[go_sem,wC]
 by_cases q:(za9 T e).2=0
 rotate_left
 .have q':((za9 T e).2 !=0)=true:=by simpa using q
  rw[if_pos q]at hM
  simp[go_sem,q']
  exact ret zeroV _ _ hM
 have q':((za9 T e).2 !=0)=false:=by simpa using q
 have n1: ¬(za9 T e).2≠0:=fun h=>h q
 rw[if_neg n1]at hM
 by_cases hlen:row.length=T.cols.length
 rotate_left
 .have h1:((row.length:Int) !=T.cols.length)=true:=by simp;omega
  rw[if_pos (by unfold zE2;rw[decide_eq_false hlen,Eh])]at hM
  simp[go_sem,q',h1]
  exact ret zeroV 9 _ hM
 have h1:((row.length:Int) !=T.cols.length)=false:=by simp;omega
 obtain⟨mr,ai⟩:=eX (zE2 T.cols row)
 have aa:=ai
 unfold zE2 at aa
 rw[decide_eq_true hlen,B5]at aa
 rw[ai]at hM hok
 simp[go_sem,q',h1]
 refine zH (S:=Nat×GValue) [1,3,5,6,29,30,31] (fun u=> [.sl .ro (row.map GValue.row),.ptr 0 0,.ptr 1 0,.ptr 2 0,.sl .ro (row.map GValue.row),.int .i64 row.length,.int .i64 u.1])
   (fun u=> [.box T.row,.box e.row,.box u.2.row]) (fun u=>row.length - u.1) (fun u=>u.1<=row.length/\(((row.zip T.cols).drop u.1).all fun p=>yH4 p.1 p.2)=mr) hc hb (0,zeroV) ⟨A4 _,aa⟩ ?_ ?_
 .exact at_n 3 (by simp[go_sem,zeroV]) rfl (by simp[ltOb,ltC,ltK,GExpr.row_eq,GTable.row,GValue.row]) (A4 _) (zF sg rfl)
 rintro⟨i,v0⟩ ⟨hi,hinv⟩
 simp only at hi hinv
 by_cases p:i<row.length
 rotate_left
 .rw[Ab (by rw[List.length_zip];omega)]at hinv
  have hm:mr=true:=hinv.symm
  rw[if_neg (by rw[hm];decide)]at hM
  have aj:=hok hm hv
  have ab:Pure prog 178 [.agg T.row,.sl .ro (row.map GValue.row),.agg e.row] (valP (evF T row e)):=by
   unfold za9 at q
   by_cases d:wE e<=64
   .rw[if_pos d]at q;exact yU6 aj hT 64 e d he.wide he.good q
   .rw[if_neg d]at q;cases q
  rw[hM]at ab
  refine zA ?_
  simp[go_sem,p]
  refine zJ ab cB ⟨zC rfl,zK,zQ2 e,tV⟩ rfl ?_
  simp[go_sem,valP]
  exact zo0 rfl
 have qc:i<T.cols.length:=om
 have ei:=zQ p (by unfold maxLen at hT;omega)
 obtain⟨v,ak⟩:=eX (row[i])
 obtain⟨C,hC⟩:=eX (T.cols[i])
 have qz:i<(row.zip T.cols).length:=by rw[List.length_zip];omega
 rw[zG7 _ _ _ qz,List.getElem_zip,ak,hC]at hinv
 obtain⟨tl,af⟩: ∃tl,(((row.zip T.cols).drop (i+1)).all fun p=>yH4 p.1 p.2)=tl:=⟨_,rfl⟩
 rw[af]at hinv
 unfold yH4 at hinv
 have al:=yp6 v
 simp only at hinv
 generalize mayF v=mv at al hinv
 refine zA ?_
 simp[go_sem,p,ak]
 refine yS [(1,0)] 4 sm kR kR ?_
 simp[go_sem]
 refine pD al ?_
 refine(A9 mv).elim (fun p2=> ?_) (fun p2=> ?_)
 rotate_left
 .have hm:mr=false:=by rw[<-hinv,p2];simp
  rw[if_pos hm]at hM
  simp[go_sem,p2]
  exact ret zeroV 9 _ hM
 rw[p2,B5]at hinv
 simp[go_sem,p2]
 by_cases k1:v.kind=C.kind
 .have ag:(v.kind !=C.kind)=false:=by simpa using k1
  have ad:(v.kind==C.kind)=true:=by simpa using k1
  rw[ad,Ep,B5]at hinv
  simp[go_sem,ag,qc,hC,ei]
  exact zG (i+1,v0) ⟨by show row.length - (i+1)<row.length - i;omega,⟨p,af.trans hinv⟩,at_n 3 (by simp[go_sem,GExpr.row_eq]) rfl (by simp[ltOb,ltC,ltK,GExpr.row_eq]) dC (zF sg rfl)⟩
 have ag:(v.kind !=C.kind)=true:=by simpa using k1
 have ad:(v.kind==C.kind)=false:=by simpa using k1
 rw[ad,Bool.or_false]at hinv
 simp[go_sem,ag,qc,hC]
 by_cases k0:v.kind=0
 .have ah:(v.kind !=0)=false:=by simpa using k0
  have ae:(v.kind==0)=true:=by simpa using k0
  rw[ae,B5]at hinv
  simp[go_sem,ah,ei]
  exact zG (i+1,v0) ⟨by show row.length - (i+1)<row.length - i;omega,⟨p,af.trans hinv⟩,at_n 3 (by simp[go_sem,GExpr.row_eq]) rfl (by simp[ltOb,ltC,ltK,GExpr.row_eq]) dC (zF sg rfl)⟩
 have ah:(v.kind !=0)=true:=by simpa using k0
 have ae:(v.kind==0)=false:=by simpa using k0
 rw[ae,Eh]at hinv
 rw[if_pos hinv.symm]at hM
 simp[go_sem,ah]
 exact ret zeroV 9 _ hM
theorem xy0 {T:GTable} {row:List GValue} (hv: ∀v∈row,v.ok) {e:GExpr} (he:EOk e) (h:(evR T row e).2=0):VK (evR T row e).1 (za9 T e).1:=by
 unfold evR at h⊢
 by_cases q:(za9 T e).2=0
 rotate_left
 .rw[if_pos q]at h;exact absurd h q
 have n1: ¬(za9 T e).2≠0:=fun h=>h q
 rw[if_neg n1]at h⊢
 cases hm:zE2 T.cols row with
 |false=>rw[hm]at h;simp at h
 |true=>
  rw[hm]at h
  simp only[Bool.true_eq_false,if_false]at h⊢
  unfold za9 at q⊢
  by_cases d:wE e<=64
  .rw[if_pos d]at q⊢
   exact xd0 (yt4 hm hv) 64 e d he.good q h
  .rw[if_neg d]at q;cases q
theorem xT4 (T:GTable) (e:GExpr) (x:Ln) (l:List Ln) (acc:GValue):sumF T e (x::l) acc=
  if(evR T x.v e).2≠0 then(zeroV,(evR T x.v e).2)
  else if(evR T x.v e).1.kind=0 then sumF T e l acc
  else if(rngF (acc.n+(evR T x.v e).1.n)).2≠0 then(zeroV,(rngF (acc.n+(evR T x.v e).1.n)).2)
  else sumF T e l ⟨2,(rngF (acc.n+(evR T x.v e).1.n)).1,[]⟩:=rfl
theorem xT9 (T:GTable) (hT:T.cols.length<=maxLen) (e:GExpr) (he:EOk e) (l:List Ln) (hl:l.length<=10000) (hok: ∀x∈l,∀v∈x.v,v.ok):VCalls prog 229 [.agg T.row,.agg e.row,.lsv 0 3 l.length 0 l.length] [.lst (l.map Ln.row) 3] (fun r s=>r=valP (sumF T e l zeroV)/\s= [.lst (l.map Ln.row) 3]):=by
 generalize hM:sumF T e l zeroV=M
 have ret: ∀(v:GValue) (er:Int) (σ:St),(v,er)=M->σ.take 1= [.lst (l.map Ln.row) 3]->wret (some (.tup [.agg v.row,.int .i64 er])) 1 (fun r s=>r=valP M/\s= [.lst (l.map Ln.row) 3]) σ:=by
  rintro v er σ rfl h
  exact xA 1 h rfl (by simp[ltOb,ltC,ltK,Ln.row]) (A5 _) (zC rfl) ⟨rfl,rfl⟩
 refine iV 1 func229 ntmps229 results229 fun c hc hb=> ?_
 refine zA ?_
 simp[go_sem]
 refine zH (S:=Nat×GValue) [3,4,6,7,8,13,14,15] (fun u=> [.ptr 1 0,.ptr 2 0,.ptr 3 0,.int .i64 0,.ptr 4 0,.lsv 0 3 l.length 0 l.length,.int .i64 l.length,.int .i64 u.1])
  (fun u=> [.lst (l.map Ln.row) 3,.box T.row,.box e.row,.box zeroV.row,.box u.2.row]) (fun u=>l.length - u.1)
  (fun u=>u.1<=l.length/\okI u.2.n/\u.2.s= []/\sumF T e (l.drop u.1) u.2=M) hc hb (0,zeroV) ⟨A4 _,dC,rfl,hM⟩ ?_ ?_
 .exact at_n 5 (by simp[go_sem,zeroV,GExpr.row_eq]) rfl (by simp[ltOb,ltC,ltK,GExpr.row_eq,GTable.row,GValue.row,Ln.row]) dC (zF sg rfl)
 rintro⟨i,acc⟩ ⟨hi,ha,has,hinv⟩
 simp only at hi ha has hinv
 by_cases q:i<l.length
 rotate_left
 .rw[Ab om]at hinv
  refine zA ?_
  simp[go_sem,q]
  exact ret acc 0 _ hinv rfl
 have ei:=zQ q om
 obtain⟨x,hx⟩:=eX (l[i])
 have ai:x∈l:=hx▸Aa q
 rw[A8 q,hx,xT4]at hinv
 have aa:=yx0 T hT x.v (hok x ai) e he
 have ad:=xy0 (hok x ai) (T:=T) he
 obtain⟨⟨v,er⟩,hv⟩: ∃kv,evR T x.v e=kv:=⟨_,rfl⟩
 rw[hv]at hinv aa ad
 simp only at hinv ad
 refine zA ?_
 simp[go_sem,q,hx]
 refine zJ aa cB ⟨zC rfl,zK,zQ2 e,tV⟩ rfl ?_
 simp[go_sem,valP]
 by_cases q2:er=0
 rotate_left
 .have ae:(er !=0)=true:=by simpa using q2
  rw[if_pos q2]at hinv
  simp[go_sem,ae]
  exact ret zeroV er _ hinv rfl
 have ae:(er !=0)=false:=by simpa using q2
 rw[if_neg (fun h=>h q2)]at hinv
 have aj:=ad q2
 simp[go_sem,ae]
 by_cases k0:v.kind=0
 .have af:(v.kind==0)=true:=by simpa using k0
  rw[if_pos k0]at hinv
  simp[go_sem,af,ei]
  exact zG (i+1,acc) ⟨by show l.length - (i+1)<l.length - i;omega,⟨q,ha,has,hinv⟩,at_n 5 (by simp[go_sem,zeroV,GExpr.row_eq]) rfl (by simp[ltOb,ltC,ltK,GExpr.row_eq,Ln.row]) dC (zF sg rfl)⟩
 have af:(v.kind==0)=false:=by simpa using k0
 rw[if_neg k0]at hinv
 have ab:=zU7 acc.n v.n ha aj.n
 have ag:=yD2 (acc.n+v.n)
 obtain⟨⟨sn,se⟩,hs⟩: ∃s,rngF (acc.n+v.n)=s:=⟨_,rfl⟩
 rw[hs]at hinv ab ag
 simp only at hinv ag
 simp[go_sem,af]
 refine pC ab ?_
 simp[go_sem,wC]
 by_cases q3:se=0
 rotate_left
 .have ah:(se !=0)=true:=by simpa using q3
  rw[if_pos q3]at hinv
  simp[go_sem,ah]
  exact ret zeroV se _ hinv rfl
 have ah:(se !=0)=false:=by simpa using q3
 rw[if_neg (fun h=>h q3)]at hinv
 simp[go_sem,ah,ei]
 exact zG (i+1,⟨2,sn,[]⟩) ⟨by show l.length - (i+1)<l.length - i;omega,⟨q,ag,rfl,hinv⟩,at_n 5 (by simp[go_sem,zeroV,GExpr.row_eq,has]) rfl (by simp[ltOb,ltC,ltK,GExpr.row_eq,Ln.row]) dC (zF sg rfl)⟩
def oneV (r:List GValue×Int):V:=if r.2=0 then .tup [.agg (Ot.row ⟨0,[r.1]⟩),.int .i64 0]else .tup [.agg (Ot.row ⟨0,[]⟩),.int .i64 r.2]
theorem wh0 (T:GTable) (hT:T.cols.length<=maxLen) (st:GStmt) (af:SOk st) (l:List Ln) (hl:l.length<=10000) (hok: ∀x∈l,∀v∈x.v,v.ok):VCalls prog 155 [.agg T.row,.agg st.row,.lsv 0 3 l.length 0 l.length] [.lst (l.map Ln.row) 3] (fun r s=>r=oneV (zz2 T l st.items [])/\s= [.lst (l.map Ln.row) 3]):=by
 generalize hM:zz2 T l st.items []=M
 obtain⟨R,hR⟩:=eX st.items
 obtain⟨ag,ae⟩:=af.items
 rw[hR]at ag ae hM
 have bad: ∀(er:Int) (σ:St),([],er)=M->er≠0->σ.take 1= [.lst (l.map Ln.row) 3]->wret (some (.tup [.agg [.sl .full [],.int .i64 0],.int .i64 er])) 1 (fun r s=>r=oneV M/\s= [.lst (l.map Ln.row) 3]) σ:=by
  rintro er σ rfl h0 h
  refine xA 1 (r:= .tup [.agg (Ot.row ⟨0,[]⟩),.int .i64 er]) h rfl (by simp[ltOb,ltC,ltK,Ln.row]) (A5 _) (wD ⟨zc7 ⟨yJ,zT rfl,tV⟩,zb8 rfl,tV⟩) ⟨?_,rfl⟩
  unfold oneV
  rw[if_neg h0]
 have good: ∀(acc:List GValue) (σ:St),(acc,0)=M->σ.take 1= [.lst (l.map Ln.row) 3]->wret (some (.tup [.agg [.sl .full [[.sl .ro (acc.map GValue.row)]],.int .i64 0],.int .i64 0])) 1 (fun r s=>r=oneV M/\s= [.lst (l.map Ln.row) 3]) σ:=by
  rintro acc σ rfl h
  exact xA 1 (r:= .tup [.agg (Ot.row ⟨0,[acc]⟩),.int .i64 0]) h rfl (by simp[ltOb,ltC,ltK,Ln.row]) (A5 _) (wD ⟨zc7 ⟨yJ,zT rfl,tV⟩,zb8 rfl,tV⟩) ⟨rfl,rfl⟩
 refine iV 1 func155 ntmps155 results155 fun c hc hb=> ?_
 refine zA ?_
 simp[go_sem,hR]
 refine zi6 8 3 dC sg ?_
 refine zH (S:=Nat×List GValue) [2,3,4,6,7,8,15,16,17] (fun u=> [.lsv 0 3 l.length 0 l.length,.ptr 1 0,.ptr 2 0,.ptr 3 0,.int .i64 0,.sl (.app 4) (u.2.map GValue.row),.sl .ro (R.map GItem.row),.int .i64 R.length,.int .i64 u.1])
  (fun u=> [.lst (l.map Ln.row) 3,.box T.row,.box st.row,.box [.sl .full [],.int .i64 0],.app u.2.length 3]) (fun u=>R.length - u.1)
  (fun u=>u.1<=R.length/\u.2.length<=u.1/\zz2 T l (R.drop u.1) u.2=M) hc hb (0,[]) ⟨A4 _,A5 _,hM⟩ ?_ ?_
 .exact at_n 5 (by simp[go_sem,hR]) rfl (by simp[ltOb,ltC,ltK,GTable.row,GStmt.row,Ln.row]) dC (zF sg rfl)
 rintro⟨i,acc⟩ ⟨hi,ha,hinv⟩
 simp only at hi ha hinv
 by_cases q:i<R.length
 rotate_left
 .rw[Ab om]at hinv
  refine zA ?_
  simp[go_sem,q]
  exact good acc _ hinv rfl
 have ei:=zQ q om
 obtain⟨x,hx⟩:=eX (R[i])
 have ah:=(ae x (hx▸Aa q)).2
 rw[A8 q,hx,zz2]at hinv
 refine zA ?_
 simp[go_sem,q,hx]
 by_cases k4:x.kind=4
 rotate_left
 .have ab:(x.kind==4)=false:=by simpa using k4
  rw[if_neg k4]at hinv
  simp[go_sem,ab]
  refine zI ⟨om,zV rfl⟩ ?_
  simp[go_sem,ei]
  exact zG (i+1,acc++ [⟨2,l.length,[]⟩]) ⟨by show R.length - (i+1)<R.length - i;omega,⟨q,by show(acc++ [_]).length<=i+1;simp;omega,hinv⟩,aN 5 (by simp[ltOb,ltC,ltK,Ln.row])⟩
 have ab:(x.kind==4)=true:=by simpa using k4
 rw[if_pos k4]at hinv
 simp[go_sem,ab]
 have aa:=xT9 T hT x.e ah l hl hok
 obtain⟨⟨v,er⟩,hv⟩: ∃kv,sumF T x.e l zeroV=kv:=⟨_,rfl⟩
 rw[hv]at hinv aa
 simp only at hinv
 refine zl9 0 aa cB rfl (by simp[ltOb,ltC,ltK,Ln.row]) ⟨zC rfl,zQ2 x.e,.inl rfl,tV⟩ (by rintro r s ⟨rfl,rfl⟩;exact⟨_,rfl,by simp[ltOb,ltC,ltK,Ln.row]⟩) ?_
 rintro r o ⟨rfl,ho⟩
 cases ho
 simp[go_sem,valP]
 by_cases q2:er=0
 rotate_left
 .have ad:(er !=0)=true:=by simpa using q2
  rw[if_pos q2]at hinv
  simp[go_sem,ad]
  exact bad er _ hinv q2 rfl
 have ad:(er !=0)=false:=by simpa using q2
 rw[if_neg (fun h=>h q2)]at hinv
 simp[go_sem,ad]
 refine zI ⟨om,zV rfl⟩ ?_
 simp[go_sem,ei]
 exact zG (i+1,acc++ [v]) ⟨by show R.length - (i+1)<R.length - i;omega,⟨q,by show(acc++ [_]).length<=i+1;simp;omega,hinv⟩,aN 5 (by simp[ltOb,ltC,ltK,Ln.row])⟩
theorem xa4 (y:GItem):Pure prog 228 [.agg y.row] (.bool (y.kind==3||y.kind==4)):=by
 refine iV 0 func228 ntmps228 results228 fun c hc hb=> ?_
 refine zA ?_
 by_cases k:y.kind=3
 .have k':(y.kind==3)=true:=by simpa using k
  simp[go_sem,k']
  exact wR
 .have k':(y.kind==3)=false:=by simpa using k
  simp[go_sem,k']
  exact wR
theorem wb0 (l:List GItem) (hl:l.length<=12):Pure prog 290 [.sl .ro (l.map GItem.row),.fn 228 []] (.int .i64 (zb6 (fun y=>y.kind==3||y.kind==4) l 0)):=by
 generalize hM:zb6 (fun y:GItem=>y.kind==3||y.kind==4) l 0=M
 have ret: ∀(r:Int) (σ:St),r=M->wret (some (.int .i64 r)) 0 (fun r s=>r= .int .i64 M/\s= []) σ:=fun r σ h=>by subst h;exact wR
 refine iV 0 func290 ntmps290 results290 fun c hc hb=> ?_
 refine zA ?_
 simp[go_sem]
 refine zH (S:=Nat) [0,1,6,7,8] (fun i=> [.sl .ro (l.map GItem.row),.fn 228 [],.sl .ro (l.map GItem.row),.int .i64 l.length,.int .i64 (i:Int)]) (fun _=> []) (fun i=>l.length - i)
  (fun i=>i<=l.length/\zb6 (fun y=>y.kind==3||y.kind==4) (l.drop i) i=M) hc hb 0 ⟨A4 _,hM⟩ ?_ ?_
 .exact aN 0 sm
 rintro i ⟨hi,hinv⟩
 by_cases q:i<l.length
 rotate_left
 .rw[Ab om]at hinv
  refine zA ?_
  simp[go_sem,q]
  exact ret _ _ hinv
 have ei:=zQ q om
 obtain⟨y,hy⟩:=eX (l[i])
 rw[A8 q,hy,zb6]at hinv
 have aa:=xa4 y
 generalize (y.kind==3||y.kind==4)=b at aa hinv
 refine zA ?_
 simp[go_sem,q,hy]
 refine pC aa ?_
 refine(A9 b).elim (fun p=> ?_) (fun p=> ?_)
 .rw[if_pos p]at hinv
  simp[go_sem,p]
  exact ret _ _ hinv
 .rw[if_neg (by rw[p];decide)]at hinv
  simp[go_sem,p,ei]
  exact zG (i+1) ⟨om,⟨om,hinv⟩,aN 0 sm⟩
theorem wa3 (l:List GItem) (hl:l.length<=12):Pure prog 227 [.sl .ro (l.map GItem.row),.fn 228 []] (.bool (zK2 l)):=by
 have h:=wb0 l hl
 have hg:=zA8 (fun y:GItem=>y.kind==3||y.kind==4) l 0
 unfold zK2
 rw[<-hg]
 generalize zb6 (fun y:GItem=>y.kind==3||y.kind==4) l 0=n at h⊢
 refine iW 0 func227 ntmps227 results227 fun c hc hb=>zL ?_
 simp[go_sem]
 refine pC h ?_
 simp[go_sem]
 exact wR
theorem xV1 (st:GStmt) (aa:SOk st):Pure prog 154 [.agg st.row] (.bool (zK2 st.items)):=by
 have h:=wa3 st.items aa.items.1
 generalize zK2 st.items=b at h⊢
 refine iW 0 func154 ntmps154 results154 fun c hc hb=>zL ?_
 simp[go_sem]
 refine pC h ?_
 simp[go_sem]
 exact wR
theorem zN0 {α:Type}: ∀{W:List (Pl×α)},(∀e∈W,e.1≠p)->W.filter (fun e=> !decide (e.1=p))=W:=fun{W} h=>
 Dw.2 fun e he=>by simp[h e he]
theorem zQ8 {α:Type} {p:Pl} {v:α}: ∀{W:List (Pl×α)} {i:Nat},(W.map (·.1)).Nodup->W[i]? =some (p,v)->W.eraseIdx i=W.filter (fun e=> !decide (e.1=p))
 | [],i,_,h=>by simp at h
 |e::W,0,hn,h=>by
  simp only[List.getElem?_cons_zero,Option.some.injEq]at h
  subst h
  rw[Aj,C9]at hn
  rw[List.eraseIdx_cons_zero,Ck,if_neg sm]
  exact(zN0 fun e he q=>hn.1 (Ac.2 ⟨e,he,q⟩)).symm
 |e::W,i+1,hn,h=>by
  rw[Cz]at h
  rw[Aj,C9]at hn
  have aa:e.1≠p:=fun q=>hn.1 (Ac.2 ⟨(p,v),As h,q.symm⟩)
  rw[List.eraseIdx_cons_succ,Ck,if_pos (by simp[aa]),zQ8 hn.2 h]
theorem wf9 (hn:(b.W.map (·.1)).Nodup) (p:Pl):(b.del p).W=b.W.filter (fun e=> !decide (e.1=p)):=by
 unfold Mp.del
 cases h:b.at p with
 |none=>exact(zN0 (zL4 h)).symm
 |some q=>exact zQ8 hn (zi2 (i:=q.1) (v:=q.2) h)
theorem xj0 {α:Type} {p:Pl} {u v:α}: ∀{W:List (Pl×α)} {i:Nat},(W.map (·.1)).Nodup->W[i]? =some (p,u)->W.set i (p,v)=W.map (fun e=>if e.1=p then(p,v)else e)
 | [],i,_,h=>by simp at h
 |e::W,0,hn,h=>by
  simp only[List.getElem?_cons_zero,Option.some.injEq]at h
  subst h
  rw[Aj,C9]at hn
  rw[Dc,Aj,if_pos rfl]
  congr 1
  refine(List.map_id _).symm.trans (B6 fun e he=> ?_)
  rw[if_neg fun q=>hn.1 (Ac.2 ⟨e,he,q⟩)];rfl
 |e::W,i+1,hn,h=>by
  rw[Cz]at h
  rw[Aj,C9]at hn
  have aa:e.1≠p:=fun q=>hn.1 (Ac.2 ⟨(p,u),As h,q.symm⟩)
  rw[Cg,Aj,if_neg aa,xj0 hn.2 h]
theorem NowOk.keys {l:List Ln} (h:NowOk b l):(b.W.map (·.1)).Nodup:=by
 have h1:=h.perm.map (·.1)
 rw[Bk]at h1
 exact h1.nodup_iff.2 h.rise.nodup
theorem NowOk.del {l:List Ln} (h:NowOk b l) (p:Pl):NowOk (b.del p) (l.filter fun y=> !decide (y.at=p)):=by
 refine⟨Mp.del_ok h.ok _, ?_, ?_,fun y hy=>h.rows y (Aw.1 hy).1⟩
 .exact List.Pairwise.sublist ((C5).map _) h.rise
 .rw[wf9 h.keys]
  have h1:=h.perm.filter (fun e=> !decide (e.1=p))
  rw[List.filter_map]at h1
  exact h1
theorem NowOk.turn {l:List Ln} (h:NowOk b l) (p:Pl) (row:List GValue) (hp:atF l p=true) (aa:LnOk ⟨p.1,p.2,row⟩):NowOk (b.put p (yO row)) (putF l p row):=by
 have ab:(putF l p row).map Ln.at=l.map Ln.at:=by
  unfold putF
  rw[Bk]
  refine B6 fun y _=> ?_
  by_cases q:y.at=p
  .simp only[Function.comp,if_pos q];rfl
  .simp only[Function.comp,if_neg q]
 refine⟨Mp.put_ok h.ok _ _, ?_, ?_,fun y hy=> ?_⟩
 .rw[ab];exact h.rise
 .have e:(b.put p (yO row)).W=b.W.map (fun e=>if e.1=p then(p,yO row)else e):=by
   unfold Mp.put
   cases r:b.at p with
   |none=>rw[h.at_none.1 r]at hp;cases hp
   |some q=>exact xj0 h.keys (zi2 (i:=q.1) (v:=q.2) r)
  rw[e]
  have h1:=h.perm.map (fun e=>if e.1=p then(p,yO row)else e)
  rw[Bk]at h1
  refine h1.trans (List.Perm.of_eq ?_)
  unfold putF
  rw[Bk]
  refine B6 fun y _=> ?_
  by_cases q:y.at=p
  .simp only[Function.comp,if_pos q]
   show _=((y.r,y.k),yO row)
   rw[<-q];rfl
  .simp only[Function.comp,if_neg q]
 .unfold putF at hy
  obtain⟨z,hz,rfl⟩:=Ac.1 hy
  by_cases q:z.at=p
  .rw[if_pos q]
   subst q
   exact aa
  .rw[if_neg q];exact h.rows z hz
theorem VK.okV {v:GValue} {k:Int} (h:VK v k):v.ok:=by
 have hm:=h.may
 have hn:=h.n
 rcases zO7 hm with ⟨h1,_,h3⟩|⟨h1,_,h3⟩|⟨h1,h3⟩|⟨h1,_,h3⟩
 all_goals
  refine⟨by rw[h1];decide,hn, ?_⟩
  first|(rw[h3];decide)|(unfold maxLen;omega)
theorem yc7 {T:GTable} {old:List GValue} (ho: ∀v∈old,v.ok): ∀{sets:List GAssign} {row:List GValue},(∀x∈sets,EOk x.e)->(∀v∈row,v.ok)->(setF T old sets row).2=0->(setF T old sets row).1.length=row.length/\ ∀v∈(setF T old sets row).1,v.ok
 | [],row,_,hr,_=>⟨rfl,hr⟩
 |x::l,row,hs,hr,h=>by
  rw[setF]at h⊢
  by_cases q:(evR T old x.e).2=0
  .rw[if_neg (fun h=>h q)]at h⊢
   have hv:=(xy0 ho (hs x sm) q).okV
   have h2:=yc7 ho (sets:=l) (row:=row.set (colF T x.name).toNat (evR T old x.e).1) (fun y hy=>hs y (by simp[hy])) (fun v aa=>by
    rcases Cq aa with h|rfl
    .exact hr v h
    .exact hv) h
   rw[Db]at h2
   exact h2
  .rw[if_pos q]at h;exact absurd h q
theorem yl5 {T:GTable} {st:GStmt}: ∀{l acc:List Ln},∀x∈(zw7 T st acc l).1,x∈acc∨x∈l
 | [],_,_,h=> .inl h
 |y::l,acc,x,h=>by
  rw[zw7]at h
  by_cases q:(evR T y.v st.where_).2=0
  .rw[if_neg (fun h=>h q)]at h
   rcases yl5 (l:=l) x h with h|h
   .by_cases t:ya3 (evR T y.v st.where_).1=true
    .rw[if_pos t]at h
     rcases Av.1 h with h|h
     .exact .inl h
     .simp at h;exact .inr (h▸Au ..)
    .rw[if_neg t]at h;exact .inl h
   .exact .inr (An _ h)
  .rw[if_pos q]at h;cases h
theorem zI6 {t:Int} {T:GTable} {st:GStmt} {l:List Ln}: ∀x∈(metF t T st l).1,x∈l/\(zi8 t st x)=true:=fun x h=>by
 unfold metF at h
 have hf:x∈l.filter (zi8 t st):=by
  by_cases q:st.filtered=true
  .rw[if_pos q]at h
   rcases yl5 x h with h|h
   .cases h
   .exact h
  .rw[if_neg q]at h;exact h
 exact Aw.1 hf
theorem xR1 (l:List Ln) (p:Pl) (row:List GValue):(putF l p row).map Ln.at=l.map Ln.at:=by
 unfold putF
 rw[Bk]
 refine B6 fun y _=> ?_
 by_cases q:y.at=p
 .simp only[Function.comp,if_pos q];rfl
 .simp only[Function.comp,if_neg q]
theorem yG5 (l:List Ln) (p q:Pl) (row:List GValue):atF (putF l p row) q=atF l q:=by
 rw[D4,atF_iff,atF_iff,xR1]
end Go.Proofs.YtefbicjgbaaieaaGreat
