/-
  Which lots may be, by the document, over trees (the library Vx); used by the theorem at the end of the claim.
  Conditions: as each theorem states them.
-/
import Derived.Test.YtefbicjgbaaieaaGreatKAG
import Derived.Lib.Overlaps
import Derived.Lib.AppendZerosOnto
import Derived.Laws.Externs
import Derived.Laws.IdiomCopy
import Derived.Deep.RegionLaw
import Derived.Test.YtefbicjgbaaieaaGreatKAR
import Derived.Test.YtefbicjgbaaieaaGreatKAH
set_option maxHeartbeats 8000000
namespace Go.Proofs.YtefbicjgbaaieaaGreat
open Go Go.Vx Go.Proofs.Tryz
set_option maxRecDepth 100000
theorem zz1 {P:Program} {w:World} {dT sT ty el:TypeId} {b o aa ad ab ae s k:Nat} {a:Addr} {arr:Array Value} {T:TypeId} {fz:Nat×Nat} {cs:List Value} (hu:P.underlying dT=some (.slice el)) (hs:(P.info? el).map (·.size)=some s)
  (hk:Nat.min ab aa=k) (hn:cs.length=k*s) (af: ∀j v,cs[j]? =some v->w.cell? (a.add j)=some v) (hh:w.heap[b]? =some (.cells arr T fz)) (hf:zf4 arr fz) (ah:o+cs.length<=arr.size) (h1: ∀v∈cs,v.oneCell'=true):
  (Builtin.copy_ #[dT,sT] ty #[.slice (some ⟨b,o,none⟩) aa ad,.slice (some a) ab ae]).run P w= .ok (goInt k) (zX w b (.cells (zY arr o cs) T fz)):=by
 have hl:=run_loadCells_list (P:=P) w a cs af
 have ag:=xJ P b o T fz cs 0 arr w hh hf om h1
 rw[D1]at ag
 cases hq:P.info? el with
 |none=>simp[hq]at hs
 |some i=>
  have hi:i.size=s:=by simpa[hq]using hs
  simp[Builtin.copy_,run_underlying hu,Builtin.lenOf,Builtin.firstCells,sizeOf,typeInfo,hq,hi,hk,<-hn,hl,ag]
theorem zJ7 {P:Program} {ops:Array Oper} {o:Oper} {a:Act} {w:World} {K:Act->World->Prop} {Q:Exit->Act->World->Prop} {E:Prop}
  (hg:o.guard=none) (d x:Operand) (dT sT:TypeId) (aa:o.op=Op.call {callee:=Callee.builtin Builtin.copy,args:= #[d,x],argTypes:= #[dT,sT]})
  (v u:Value) (hd:a.eval d=v) (hx:a.eval x=u) {v':Value} {w':World} (hr:(Builtin.copy_ #[dT,sT] o.type #[v,u]).run P w= .ok v' w') (hK:K (a.put o.dst v') w'):
  if Region.wanted o (yielded ops a.tmps)=true then Oper.wp P o a w K Q else E:=by
 have hw:Region.wanted o (yielded ops a.tmps)=true:=by simp[Region.wanted,hg]
 rw[if_pos hw]
 unfold Oper.wp
 simp[execOp,aa,resolve,invoke,builtin,hd,hx,hr,Result.andThen]
 exact hK
theorem xm7 (b vb c vc n i:Nat) (arr aa:Array Value) (T Tv:TypeId) (fz ad:Nat×Nat) (D news:List Value) (w:World) (hi:i<n) (al:n+1<=c) (aw:n<=9223372036854775806) (ah:vb≠b)
  (hh:w.heap[b]? =some (.cells arr T fz)) (hf:zf4 arr fz) (ay:c*2<=arr.size) (hv:w.heap[vb]? =some (.cells aa Tv ad)) (ai:unfrozenL 2 aa ad) (ax:2<=aa.size)
  (hD:D=(arr.toList.drop (i*2)).take ((n - i)*2)) (hn:news=aa.toList.take 2) (an: ∀v∈D,v.oneCell'=true) (ao: ∀v∈news,v.oneCell'=true):
  Calls prog 120 #[.slice (some ⟨b,0,none⟩) n c,.int .i64 i,.slice (some ⟨vb,0,none⟩) 1 vc] w fun e w'=>
   e= .returned (.slice (some ⟨b,0,none⟩) (n+1) c)/\w'=zX (zX w.drew b (.cells (zY arr ((i+1)*2) D) T fz)) b (.cells (zY (zY arr ((i+1)*2) D) (i*2) news) T fz):=by
 have az:i<=n:=om
 have a1: ¬((i:Int)=(n:Int)):=om
 have a6:(0:Int)<=(i:Int)+1:=om
 have a7:((i:Int)+1).toNat=i+1:=om
 have a8: ¬(c=i+1):=om
 have aA:(i:Int)<=(n:Int)+1:=om
 have aB:(i:Int)+1<=(n:Int)+1:=om
 have aC: ¬(c=i):=om
 have aD:IntKind.i64.wrap ((i:Int)+1)=(i:Int)+1:=by rw[IntKind.wrap_i64];omega
 have ae:D.length=(n - i)*2:=by rw[hD];simp;omega
 have af:news.length=2:=by rw[hn];simp;omega
 have aq:w.frozen? ⟨vb,0,none⟩=false:=by
  have:=ai.1 0 om
  simp[World.frozen?,hv];omega
 have ar:w.frozen? ⟨vb,aa.size,none⟩=false:=by
  have:=ai.2.resolve_left dC
  simp[World.frozen?,hv];omega
 have au: ∀lb cb,(callFunc 189 #[.slice (some ⟨vb,0,none⟩) 1 vc,.slice (some ⟨b,(i+1)*2,none⟩) lb cb]).run prog w= .ok (.value (.bool false)) w:=fun lb cb=>by
  rw[run_callFunc_extern func189 kR kR kR (e:=Extern.SlicesOverlaps.overlaps #[99,99] #[4]) kR,
   Lib.run_overlaps_apart w 99 4 103 underlying99 2 sizeOf103 ⟨vb,0,none⟩ ⟨b,(i+1)*2,none⟩ 1 vc lb cb ah Tv T aa.size arr.size (by simp[World.shape?,hv]) (by simp[World.shape?,hh]) om aq ar]
  rfl
 have ab:(Tryz.prog.info? 103).map (·.size)=some 2:=kR
 have ag: ∀(j:Nat) v,D[j]? =some v->j<(n - i)*2/\arr[i*2+j]? =some v:=fun j v e=>by
  have hj:j<(n - i)*2:=by rw[<-ae];exact(A3.1 e).1
  rw[hD,Ai,if_pos hj,Bj,Ap]at e
  exact⟨hj,e⟩
 have aj: ∀ty dc sc,(Builtin.copy_ #[99,99] ty #[.slice (some ⟨b,(i+1)*2,none⟩) (n - i) dc,.slice (some ⟨b,i*2,none⟩) (n+1 - i) sc]).run prog w.drew= .ok (goInt (n - i:Nat)) (zX w.drew b (.cells (zY arr ((i+1)*2) D) T fz)):=fun ty dc sc=>
  zz1 underlying99 ab (by simp only[Nat.min_def];split<;>omega) ae (fun j v e=>by
   obtain⟨_,e2⟩:=ag j v e
   rw[Addr.add_lit];show w.cell? _=_;simpa[World.cell?,hh]using e2) hh hf (by rw[ae];omega) an
 have av:(zX w.drew b (.cells (zY arr ((i+1)*2) D) T fz)).heap[b]? =some (.cells (zY arr ((i+1)*2) D) T fz):=xC _ _ _ (Bp.1 hh).1
 have ak: ∀(W:World),W.heap=(zX w.drew b (.cells (zY arr ((i+1)*2) D) T fz)).heap-> ∀ty dc,(Builtin.copy_ #[99,99] ty #[.slice (some ⟨b,i*2,none⟩) (n+1 - i) dc,.slice (some ⟨vb,0,none⟩) 1 vc]).run prog W= .ok (goInt (1:Nat)) (zX W b (.cells (zY (zY arr ((i+1)*2) D) (i*2) news) T fz)):=fun W hW ty dc=>
  zz1 underlying99 ab (by simp only[Nat.min_def];split<;>omega) (by rw[af]) (fun j v e=>by
   have hj:j<2:=by rw[<-af];exact(A3.1 e).1
   rw[hn,Ai,if_pos hj,Ap]at e
   have e3:W.heap[vb]? =some (.cells aa Tv ad):=by rw[hW,wW _ _ _ _ ah];exact hv
   rw[Addr.add_lit];simpa[World.cell?,e3]using e) (by rw[hW];exact av) (fun o ho=>hf o (by rw[yE]at ho;exact ho)) (by rw[yE,af];omega) ao
 go_enter func120,ntmps120
 go_wp2_with (simp only[au])
 go_region_law (refine zJ7 rfl _ _ 99 99 rfl _ _ (by simp[Act.eval,Act.put]) (by simp[Act.eval,Act.put]) (aj _ _ _) ?_)
 go_wp2_with (at_builtin;refine wpList_copy_runI _ rfl _ _ 99 99 rfl _ _ rfl rfl (ak _ rfl _ _) ?_)
 go_ret
 subst hD hn
 exact⟨rfl,rfl⟩
theorem yA9 (b c n:Nat) (arr:Array Value) (T:TypeId) (fz:Nat×Nat) (x:Value) (news:List Value) (w:World) (ad:n+1<=c) (ag:n<=9223372036854775806)
  (hh:w.heap[b]? =some (.cells arr T fz)) (hf:zf4 arr fz) (ah:c*2<=arr.size) (va:Option Addr) (vc:Nat) (hx:x= .slice va 1 vc) (ab:Src prog 2 99 x 1 news w):
  Calls prog 120 #[.slice (some ⟨b,0,none⟩) n c,.int .i64 n,x] w fun e w'=>
   e= .returned (.slice (some ⟨b,0,none⟩) (n+1) c)/\w'=zX w b (.cells (zY arr (n*2) news) T fz):=by
 subst hx
 have aa:(Tryz.prog.info? 103).map (·.size)=some 2:=kR
 obtain⟨i0,af,ae⟩: ∃i0,Tryz.prog.info? 103=some i0/\i0.size=2:=by
  cases h:Tryz.prog.info? 103 with
  |none=>simp[h]at aa
  |some i0=>exact⟨i0,rfl,by simpa[h]using aa⟩
 have ai:=ab.newsLen
 have hr: ∀ty,(Builtin.append_ #[99,99] ty #[.slice (some ⟨b,0,none⟩) n c,.slice va 1 vc]).run prog w= .ok (.slice (some ⟨b,0,none⟩) (n+1) c) (zX w b (.cells (zY arr (n*2) news) T fz)):=fun ty=>by
  have h:=zf9 (P:=prog) (ty:=ty) (i:=i0) (o:=0) (n:=n) (cap:=c) (m:=1) underlying99 af (by rw[ae];exact ab) ad hh hf (by rw[ae];omega)
  rw[ae,Ad]at h
  exact h
 go_enter func120,ntmps120
 go_wp2_with (at_builtin;refine Lib.wpList_append_run _ rfl _ _ _ _ rfl _ _ rfl rfl _ _ (hr _) ?_)
 go_ret
 exact⟨rfl,rfl⟩
theorem yA8 (base:Option Addr) (c n:Nat) (x:Value) (olds news:List Value) (w:World) (ae:c<n+1) (aq:n<=c) (ag:(n+1)*32<=140737488355328)
  (hold:(Builtin.firstCells 2 n (.slice base n c)).run prog w.drew= .ok olds.toArray w.drew) (al:olds.length=n*2) (va:Option Addr) (vc:Nat) (hx:x= .slice va 1 vc) (ah:Src prog 2 99 x 1 news w):
  ∃(aa:Nat) (arr:Array Value),n+1<=aa/\aa*2<=arr.size/\arr.toList.take ((n+1)*2)=olds++news/\
  Calls prog 120 #[.slice base n c,.int .i64 n,x] w fun e w'=>
   e= .returned (.slice (some ⟨w.heap.size,0,none⟩) (n+1) aa)/\w'=w.drew.alloc (.cells arr 103):=by
 subst hx
 have ab:(Tryz.prog.info? 103).map (fun i=>(i.zero.map (·.cells.size),i.size,i.bytes))=some (some 2,2,32):=kR
 obtain⟨i0,z,an,hz,af,ad,ai⟩: ∃i0 z,Tryz.prog.info? 103=some i0/\i0.zero=some z/\z.cells.size=2/\i0.size=2/\i0.bytes=32:=by
  cases h:Tryz.prog.info? 103 with
  |none=>simp[h]at ab
  |some i0=>
   simp only[h,B8,Option.some.injEq,Prod.mk.injEq,B0]at ab
   obtain⟨⟨z,hz,af⟩,h1,h2⟩:=ab
   exact⟨i0,z,rfl,hz,af,h1,h2⟩
 obtain⟨aa,arr,ao,aj,ak,hr⟩:=zS6 (P:=prog) (w:=w) (t:=99) (tx:=99) (ty:=99) (base:=base) (cap:=c) (n:=n) (k:=1) (y:= .slice va 1 vc) (olds:=olds) (news:=news) underlying99 an hz (by rw[ad];exact af) (by rw[ai];decide) (by rw[ad];exact hold) (by rw[ad];exact al) (by rw[ad];exact ah) ae (by rw[ai];exact ag)
 rw[ad]at aj ak
 refine⟨aa,arr,ao,aj,ak, ?_⟩
 go_enter func120,ntmps120
 cases base with
 |none=>
  go_wp2_with (at_builtin;refine Lib.wpList_append_run _ rfl _ _ _ _ rfl _ _ rfl rfl _ _ hr ?_)
  go_ret
  exact⟨rfl,rfl⟩
 |some a=>
  go_wp2_with (at_builtin;refine Lib.wpList_append_run _ rfl _ _ _ _ rfl _ _ rfl rfl _ _ hr ?_)
  go_ret
  exact⟨rfl,rfl⟩
theorem yj6 (w:World) (o o':Go.Obj):zX (w.alloc o) w.heap.size o'=w.alloc o':=by
 show{w with heap:=(w.heap.push o).setIfInBounds w.heap.size o'}={w with heap:=w.heap.push o'}
 congr 1
 apply Array.ext_getElem?
 intro i
 rw[E5,Array.getElem?_push,Array.getElem?_push]
 by_cases h:w.heap.size=i
 .subst h;simp
 .rw[if_neg h,if_neg om,if_neg om]
theorem xA4 (b vb c vc n i:Nat) (arr ae:Array Value) (T Tv:TypeId) (fz av:Nat×Nat) (news:List Value) (w:World) (hi:i<n) (aq:c<n+1) (aY:n<=c) (aw:(n+1)*32<=140737488355328) (_hvb:vb≠b)
  (hh:w.heap[b]? =some (.cells arr T fz)) (aZ:c*2<=arr.size) (hv:w.heap[vb]? =some (.cells ae Tv av)) (aU:2<=ae.size)
  (hn:news=ae.toList.take 2) (aD: ∀v∈arr.toList.take (n*2),v.oneCell'=true) (aE: ∀v∈news,v.oneCell'=true):
  ∃(ai:Nat) (aj:Array Value),n+1<=ai/\ai*2<=aj.size/\aj.toList.take ((n+1)*2)=arr.toList.take (i*2)++news++(arr.toList.take (n*2)).drop (i*2)/\
  Calls prog 120 #[.slice (some ⟨b,0,none⟩) n c,.int .i64 i,.slice (some ⟨vb,0,none⟩) 1 vc] w fun e w'=>
   e= .returned (.slice (some ⟨w.heap.size,0,none⟩) (n+1) ai)/\w'=w.drew.drew.alloc (.cells aj 103):=by
 have ab:(Tryz.prog.info? 103).map (fun i=>(i.zero.map (·.cells.size),i.size,i.bytes))=some (some 2,2,32):=kR
 have af:(Tryz.prog.info? 103).map (·.size)=some 2:=kR
 obtain⟨i0,z,aF,hz,ar,ax,ay⟩: ∃i0 z,Tryz.prog.info? 103=some i0/\i0.zero=some z/\z.cells.size=2/\i0.size=2/\i0.bytes=32:=by
  cases h:Tryz.prog.info? 103 with
  |none=>simp[h]at ab
  |some i0=>
   simp only[h,B8,Option.some.injEq,Prod.mk.injEq,B0]at ab
   obtain⟨⟨z,hz,ar⟩,h1,h2⟩:=ab
   exact⟨i0,z,rfl,hz,ar,h1,h2⟩
 have ad:news.length=2:=by rw[hn];simp;omega
 have aV:n<=4398046511103:=om
 have ba: ¬((i:Int)=(n:Int)):=om
 have bb:(c:Int)<(n:Int)+1:=om
 have bc:i<=n:=om
 have bd:IntKind.i64.wrap ((i:Int)+1)=(i:Int)+1:=by rw[IntKind.wrap_i64];omega
 have bf:(0:Int)<=(i:Int)+1:=om
 have bg:((i:Int)+1).toNat=i+1:=om
 have bh:(i:Int)<=(n:Int):=om
 have bj:(i:Int)<=(n:Int)+1:=om
 have bk:(i:Int)+1<=(n:Int)+1:=om
 have bm: ¬(c=i):=om
 have aG:b<w.heap.size:=(Bp.1 hh).1
 have aH:vb<w.heap.size:=(Bp.1 hv).1
 have az:(n:Int)+1 - (i:Int)=((n+1 - i:Nat):Int):=om
 have al:i+(n+1 - i)=n+1:=om
 obtain⟨D,hD⟩: ∃D,D=(arr.toList.take (n*2)).drop (i*2):=⟨_,rfl⟩
 have an:D.length=(n - i)*2:=by rw[hD];simp;omega
 have hold:(Builtin.firstCells i0.size i (.slice (some ⟨b,0,none⟩) i c)).run prog w.drew= .ok (arr.toList.take (i*2)).toArray w.drew:=by
  rw[ax]
  refine run_firstCells_some w.drew 2 i ⟨b,0,none⟩ i c (arr.toList.take (i*2)) (by simp;omega) (fun j v hj=> ?_)
  rw[Addr.add_lit]
  show w.cell? _=_
  have aI:j<i*2:=by have:=(A3.1 hj).1;simp at this;omega
  rw[Ai,if_pos aI,Ap]at hj
  simpa[World.cell?,hh]using hj
 have hcap:grownCap w (n+1) c 103=grownCap w (i+(n+1 - i)) c 103:=by rw[al]
 have au:n+1<=grownCap w (n+1) c 103:=grownCap_ge w _ _ _
 have ak: ∀ty,∃aa:Array Value,grownCap w (n+1) c 103*2<=aa.size/\aa.toList.take (i*2)=arr.toList.take (i*2)/\(Builtin.append_ #[99,3] ty #[.slice (some ⟨b,0,none⟩) i c,.int .i64 ((n:Int)+1 - (i:Int))]).run prog w=
   .ok (.slice (some ⟨w.heap.size,0,none⟩) (n+1) (grownCap w (n+1) c 103)) (w.drew.alloc (.cells aa 103)):=fun ty=>by
  have h:=Lib.run_append_grow_zeros w 99 3 ty 103 i0 _ .i64 .i64 underlying99 underlying3 aF hz (some ⟨b,0,none⟩) i c (arr.toList.take (i*2)) hold (n+1 - i) om (by rw[ax];decide) om om (by rw[ay];omega) (by rw[ay,al];exact growslice_fits aq aw)
  rw[al]at h
  rw[az]
  refine⟨_, ?_, ?_,h⟩
  .simp only[Array.size_append,List.size_toArray,size_zeroCells,ar,Bi,Cu]
   omega
  .rw[Array.append_assoc,Array.toList_append,Cp (by simp;omega)]
   simp[E4]
 have a1:=au
 obtain⟨G,hG⟩: ∃G,G=grownCap w (n+1) c 103:=⟨_,rfl⟩
 have aW:G<=9223372036854775807:=by
  have:=grownCap_le_maxLen w (n+1) c 103 (by unfold maxLen;omega)
  rw[<-hG]at this
  unfold maxLen at this
  omega
 rw[<-hG]at ak au
 obtain⟨aa,aJ,aK,ak⟩:=ak 99
 obtain⟨W1,ah⟩: ∃W1,W1=w.drew.alloc (.cells aa 103):=⟨_,rfl⟩
 have a6:W1.heap[w.heap.size]? =some (.cells aa 103):=by rw[ah];exact yH w.drew _
 have aL:W1.heap[b]? =some (.cells arr T fz):=by rw[ah];exact(zj8 w.drew _ aG).trans hh
 have aP:W1.heap[vb]? =some (.cells ae Tv av):=by rw[ah];exact(zj8 w.drew _ aH).trans hv
 have a7: ∀A:Array Value,zf4 A (0,0):=fun A q _ hq=>by simp at hq
 have a8: ∀(W:World),W.heap=W1.heap-> ∀ty dc,(Builtin.copy_ #[99,99] ty #[.slice (some ⟨w.heap.size,i*2,none⟩) (n+1 - i) dc,.slice (some ⟨vb,0,none⟩) 1 vc]).run prog W= .ok (goInt (1:Nat)) (zX W w.heap.size (.cells (zY aa (i*2) news) 103 (0,0))):=fun W hW ty dc=>
  zz1 underlying99 af (by simp only[Nat.min_def];split<;>omega) (by rw[ad]) (fun j v e=>by
   have hj:j<2:=by rw[<-ad];exact(A3.1 e).1
   rw[hn,Ai,if_pos hj,Ap]at e
   rw[Addr.add_lit];simpa[World.cell?,hW,aP]using e) (by rw[hW];exact a6) (a7 _) (by rw[ad];omega) aE
 obtain⟨W2,ao⟩: ∃W2,W2=zX W1 w.heap.size (.cells (zY aa (i*2) news) 103 (0,0)):=⟨_,rfl⟩
 have aQ:W2.heap[w.heap.size]? =some (.cells (zY aa (i*2) news) 103):=by rw[ao];exact xC _ _ _ (Bp.1 a6).1
 have aR:W2.heap[b]? =some (.cells arr T fz):=by rw[ao,wW _ _ _ _ om];exact aL
 have aA: ∀(W:World),W.heap=W2.heap-> ∀ty dc sc,(Builtin.copy_ #[99,99] ty #[.slice (some ⟨w.heap.size,(i+1)*2,none⟩) (n - i) dc,.slice (some ⟨b,i*2,none⟩) (n - i) sc]).run prog W= .ok (goInt (n - i:Nat)) (zX W w.heap.size (.cells (zY (zY aa (i*2) news) ((i+1)*2) D) 103 (0,0))):=fun W hW ty dc sc=>
  zz1 underlying99 af (by simp only[Nat.min_def];split<;>omega) an (fun j v e=>by
   have hj:j<(n - i)*2:=by rw[<-an];exact(A3.1 e).1
   rw[hD,Bj,Ai,if_pos om,Ap]at e
   rw[Addr.add_lit];simpa[World.cell?,hW,aR]using e) (by rw[hW];exact aQ) (a7 _) (by rw[yE,an];omega) (fun v aB=>aD v (C6 (by rw[hD]at aB;exact aB)))
 refine⟨G,zY (zY aa (i*2) news) ((i+1)*2) D,au,by rw[yE,yE];exact aJ, ?_, ?_⟩
 .have bn:(zY (zY aa (i*2) news) ((i+1)*2) D).size=aa.size:=by rw[yE,yE]
  refine Bt fun k=> ?_
  have hA:(arr.toList.take (i*2)).length=i*2:=by simp;omega
  by_cases hk:k<(n+1)*2
  .rw[Ai,if_pos hk,Ap,wF _ _ _ _ (by rw[yE];omega),wF _ _ _ _ om]
   by_cases h1:(i+1)*2<=k
   .rw[if_pos om,Am (by simp only[Ak,hA,ad];omega)]
    simp only[Ak,hA,ad]
    congr 1;omega
   .rw[if_neg om,Ah (by simp only[Ak,hA,ad];omega)]
    by_cases h2:i*2<=k
    .rw[if_pos om,Am om,hA]
    .rw[if_neg om,Ah om,<-aK,Ai,if_pos om,Ap]
  .rw[Bh (by simp;omega),Bh (by simp only[Ak,hA,ad,<-hD,an];omega)]
 rw[<-ah]at ak
 have aC:zX W2.drew w.heap.size (.cells (zY (zY aa (i*2) news) ((i+1)*2) D) 103 (0,0))=w.drew.drew.alloc (.cells (zY (zY aa (i*2) news) ((i+1)*2) D) 103):=by
  rw[ao,ah]
  have e1:=yj6 w.drew (.cells aa 103) (.cells (zY aa (i*2) news) 103 (0,0))
  have e0:w.drew.heap.size=w.heap.size:=rfl
  rw[e0]at e1
  rw[e1]
  exact yj6 w.drew.drew _ _
 have bo: ¬(G=i):=om
 have aX: ¬(G=i+1):=om
 clear hold a1 hcap az al hG hn hD
 subst ao
 subst ah
 have aS:((w.alloc (.cells aa 103)).drew).heap=(w.drew.alloc (.cells aa 103)).heap:=rfl
 have aT:((zX ((w.alloc (.cells aa 103)).drew) w.heap.size (.cells (zY aa (i*2) news) 103 (0,0))).drew).heap=(zX (w.drew.alloc (.cells aa 103)) w.heap.size (.cells (zY aa (i*2) news) 103 (0,0))).heap:=rfl
 go_enter func120,ntmps120
 go_wp2_with (first
  |(at_builtin;refine Lib.wpList_append_run _ rfl _ _ _ _ rfl _ _ rfl rfl _ _ ak ?_)
  |(at_builtin;refine ag _ rfl _ _ 99 99 rfl _ _ rfl rfl (a8 _ aS _ _) ?_))
 go_region_law (refine zJ7 rfl _ _ 99 99 rfl (.slice (some ⟨w.heap.size,(i+1)*2,none⟩) (n - i) (G - (i+1))) (.slice (some ⟨b,i*2,none⟩) (n - i) (c - i)) (by simp[Act.eval,Act.put]) (by simp[Act.eval,Act.put]) (aA _ aT 3 (G - (i+1)) (c - i)) ?_)
 go_wp2
 go_ret
 exact⟨rfl,aC⟩
end Go.Proofs.YtefbicjgbaaieaaGreat
namespace Go.Proofs.YtefbicjgbaaieaaGreat
open Go Go.Vx Go.Proofs.Tryz
set_option maxRecDepth 100000
set_option maxHeartbeats 1000000
theorem yD5 (w:World) (b:Nat) (o o':Go.Obj):zX (zX w b o) b o'=zX w b o':=by
 show{w with heap:=(w.heap.setIfInBounds b o).setIfInBounds b o'}={w with heap:=w.heap.setIfInBounds b o'}
 congr 1
 apply Array.ext_getElem?
 intro i
 rw[E5,E5]
 by_cases h:b=i
 .subst h;simp[E5]
 .simp[h]
theorem yZ2 (arr:Array Value) (o s:Nat) (D news:List Value) (hn:news.length=s) (aa:o+s+D.length<=arr.size):zY (zY arr (o+s) D) o news=zY arr o (news++D):=by
 apply Array.ext_getElem?
 intro k
 rw[wF _ _ _ _ (by rw[yE];omega),wF _ _ _ _ aa,wF _ _ _ _ (by rw[Ak];omega)]
 by_cases h1:o<=k/\k<o+news.length
 .rw[if_pos h1,if_pos (by rw[Ak];omega),Ah om]
 .rw[if_neg h1]
  by_cases h2:o+s<=k/\k<o+s+D.length
  .rw[if_pos h2,if_pos (by rw[Ak];omega),Am om]
   congr 1;omega
  .rw[if_neg h2,if_neg (by rw[Ak];omega)]
theorem yz9 {s:Nat} {rows:List (List V)} (h:uni s rows) (i:Nat) (hi:i<=rows.length):(rows.take i).flatten=rows.flatten.take (i*s):=by
 have hl:(rows.take i).flatten.length=i*s:=by rw[zW (fun r hr=>h r (Bs hr)),Bi,Cj hi]
 have e:rows.flatten=(rows.take i).flatten++(rows.drop i).flatten:=by rw[<-C7,Bf]
 rw[e]
 rw[Cp (D2 hl.symm),Al (D2 hl)]
theorem yz8 {s:Nat} {rows:List (List V)} (h:uni s rows) (i:Nat) (hi:i<=rows.length):(rows.drop i).flatten=rows.flatten.drop (i*s):=by
 have hl:(rows.take i).flatten.length=i*s:=by rw[zW (fun r hr=>h r (Bs hr)),Bi,Cj hi]
 have e:rows.flatten=(rows.take i).flatten++(rows.drop i).flatten:=by rw[<-C7,Bf]
 rw[e]
 rw[List.drop_append_of_le_length (D2 hl.symm),Bq (D2 hl),Cs]
theorem xA6 (σ:St) (p q:Nat) (rows:List (List V)) (x:List V) (i:Nat) (hp:σ[p]? =some (.lst rows 2)) (hq:σ[q]? =some (.lst [x] 2)) (bf:p≠q) (hi:i<=rows.length) (a1:(rows.length+1)*32<=140737488355328):
  VCalls prog 120 [.lsv p 2 rows.length 0 rows.length,.int .i64 i,.lsv q 2 1 0 1] σ
   (fun r σ'=>r= .lsv p 2 (rows.length+1) 0 (rows.length+1)/\σ'=σ.set p (.lst (rows.take i++x::rows.drop i) 2)):=by
 intro w L β aL hm ha
 match aL,ha with
 | [v0,v1,v2],⟨h0,h1,h2,_⟩=>
 obtain⟨a,c0,rfl,⟨b6,b7⟩,bx,hc⟩:=h0
 obtain⟨rows',e,b8,hb⟩: ∃rows',σ[p]? =some (.lst rows' 2)/\rows.length<=rows'.length/\(rows.length=rows'.length-> ∃b c1,β[p]? =some (.slice b rows.length c1)/\c0=c1 - 0/\0<=c1/\(0<c1-> ∃k,b=some ⟨k,0,none⟩/\a=some ⟨k,0*2,none⟩)):=hc.resolve_left (by rw[hp];simp)
 rw[hp]at e;cases e
 obtain⟨b0,c1,hβ,ao,_,aq⟩:=hb rfl
 rw[Nat.sub_zero]at ao
 subst ao
 obtain⟨a',cq,rfl,⟨b9,_⟩,_,bg⟩:=h2
 obtain⟨bh,e,_,bj⟩: ∃rows',σ[q]? =some (.lst rows' 2)/\1<=rows'.length/\(1=rows'.length-> ∃b c1,β[q]? =some (.slice b 1 c1)/\cq=c1 - 0/\0<=c1/\(0<c1-> ∃k,b=some ⟨k,0,none⟩/\a'=some ⟨k,0*2,none⟩)):=bg.resolve_left (by rw[hq];simp)
 rw[hq]at e;cases e
 obtain⟨bq,c1,aP,ao,_,aB⟩:=bj rfl
 rw[Nat.sub_zero]at ao
 subst ao
 obtain⟨vb,rfl,rfl⟩:=aB om
 have aQ:=hm.objs p _ _ hp hβ
 obtain⟨a2,bz,e1,ar,aR,au,hok⟩:=hm.objs p _ _ hp hβ
 cases e1
 obtain⟨a3,b1,e1,b2,bA,aS,aT⟩:=hm.objs q _ _ hq aP
 cases e1
 obtain⟨bB,aj,Tv,aU,e1,aC,bk,b3,bC,aD⟩:=aT om
 cases e1
 cases (show v1= .int .i64 (i:Int) from by cases h1;rfl)
 have bm:x.length=2:=aS x sm
 obtain⟨news,ad⟩: ∃news,news=aj.toList.take 2:=⟨_,rfl⟩
 have a6:2<=aj.size:=om
 have aE:news.length=2:=by rw[ad];simp;omega
 have an:All2 (RdC w L σ β) x news:=by rw[ad];simpa using aD
 have aF: ∀v∈news,v.oneCell'=true:=fun v hv=>by
  obtain⟨j,hj⟩:=Aq.1 hv
  have aG:j<x.length:=by rw[an.length];exact(A3.1 hj).1
  obtain⟨z,hz,r⟩:=an.get j _ (A0 aG)
  rw[hj]at hz;cases hz;exact r.oneCell
 have aV:p<σ.length:=(A3.1 hp).1
 have bD:=zW au
 have ay:uni 2 (rows.take i++x::rows.drop i):=fun r hr=>by
  rcases Av.1 hr with hr|hr
  .exact au r (Bs hr)
  .rcases Ae.1 hr with rfl|hr
   .exact bm
   .exact au r (C6 hr)
 have ab:(rows.take i++x::rows.drop i).length=rows.length+1:=by simp;omega
 have av:(rows.take i++x::rows.drop i).flatten=rows.flatten.take (i*2)++(x++rows.flatten.drop (i*2)):=by
  rw[C7,Dk,yz9 au i hi,yz8 au i hi]
 have a7:(rows.take i++x::rows.drop i).flatten=putCells rows.flatten (i*2) (x++rows.flatten.drop (i*2)):=by
  unfold putCells
  rw[av,Bq (l:=rows.flatten) (i:=i*2+_) (by simp only[Ak,De];omega),Az]
 have aW: ∀k0,b0=some ⟨k0,0,none⟩->0<c0->vb≠k0:=fun k0 e hc e2=>by
  subst e;subst e2
  exact hm.apart p q _ _ _ _ vb bf hp hβ hq aP (by simp[excl,hc]) (by simp[excl];omega)
 have a8:Src prog 2 99 (.slice (some ⟨vb,0*2,none⟩) 1 cq) 1 news w:=Src.ofSlice w underlying99 ⟨vb,0*2,none⟩ 1 cq news (by rw[aE]) (fun j u hj=>by
  have bn:j<2:=by rw[<-aE];exact(A3.1 hj).1
  rw[ad,Ai,if_pos bn,Ap]at hj
  rw[Addr.add_lit];simpa[World.cell?,aC]using hj) aF
 have done: ∀(w':World) (k1 c1:Nat),rows.length+1<=c1->Mem (entry w L σ β) w' L (σ.set p (.lst (rows.take i++x::rows.drop i) 2)) (β.set p (.slice (some ⟨k1,0,none⟩) (rows.length+1) c1))->
   ∃v r L' σ' β',Ending.returned (.slice (some ⟨k1,0,none⟩) (rows.length+1) c1)= .returned v/\(r= .lsv p 2 (rows.length+1) 0 (rows.length+1)/\σ'=σ.set p (.lst (rows.take i++x::rows.drop i) 2))/\σ.length<=σ'.length/\Mem (entry w L σ β) w' L' σ' β'/\RdS w' L' σ' β' r v:=by
  intro w' k1 c1 bo aa
  refine⟨_,_,L,_,_,rfl,⟨rfl,rfl⟩,sm,aa, ?_⟩
  refine⟨_,c1,rfl,⟨bo,om⟩,fun _=>⟨_,_,rfl⟩,.inr ⟨_,Ba aV,by rw[ab];exact A5 _,fun _=>⟨_,c1,Ba (by rw[hm.len];exact aV),rfl,A4 _,fun _=>⟨k1,rfl,by rw[Dj]⟩⟩⟩⟩
 by_cases aX:i<rows.length
 .have ae:0<c0:=om
  obtain⟨k0,rfl,rfl⟩:=aq ae
  obtain⟨bp,arr,T,fz,e1,hh,hf,az,hL,ak⟩:=hok ae
  cases e1
  have bE:rows.length*2<=c0*2:=Ao _ ar
  obtain⟨D,hD⟩: ∃D,D=(arr.toList.take (rows.length*2)).drop (i*2):=⟨_,rfl⟩
  have bF:D.length=(rows.length - i)*2:=by rw[hD];simp;omega
  have aY:All2 (RdC w L σ β) (rows.flatten.drop (i*2)) D:=by rw[hD];exact ak.drop _
  have br:D=(arr.toList.drop (i*2)).take ((rows.length - i)*2):=by rw[hD,List.drop_take];congr 1;omega
  have aA: ∀v∈arr.toList.take (rows.length*2),v.oneCell'=true:=fun v hv=>by
   obtain⟨j,hj⟩:=Aq.1 hv
   have aG:j<rows.flatten.length:=by rw[ak.length];exact(A3.1 hj).1
   obtain⟨z,hz,r⟩:=ak.get j _ (A0 aG)
   rw[hj]at hz;cases hz;exact r.oneCell
  by_cases af:rows.length+1<=c0
  .have hd:=hm.drew
   obtain⟨al,T',bG,aZ,_,_,aa,hle,aw⟩:=hd.1.lstPut (off:=i*2) (vs:=x++rows.flatten.drop (i*2)) (xs:=news++D) (rows2:=rows.take i++x::rows.drop i) hp hβ ae
    ((an.append aY).imp fun _ _=>RdC.mono hd.2 (Ext.refl _ _)) om ay a7 om om
   rw[show w.drew.heap[k0]? =w.heap[k0]? from rfl,hh]at aZ
   cases aZ
   refine(xm7 k0 vb c0 cq rows.length i arr aj T Tv fz aU D news w aX af om (aW k0 rfl ae) hh hf.1 az aC bk a6 br ad (fun v hv=>aA v (C6 (by rw[<-hD];exact hv))) aF).mono ?_
   rintro e w' ⟨rfl,rfl⟩
   rw[yD5,show(i+1)*2=i*2+2 by omega,yZ2 _ _ _ _ _ aE om]
   rw[ab]at aa
   exact done _ k0 c0 af aa
  .obtain⟨ah,al,aH,ax,aI,ai⟩:=xA4 k0 vb c0 cq rows.length i arr aj T Tv fz aU news w aX om ar a1 (aW k0 rfl ae) hh az aC a6 ad aA aF
   refine ai.mono ?_
   rintro e w' ⟨rfl,rfl⟩
   have hd:=hm.drew
   have ba:=hd.1.drew
   have ag:All2 (RdC w.drew.drew L σ β) (rows.take i++x::rows.drop i).flatten (al.toList.take ((rows.take i++x::rows.drop i).length*2)):=by
    rw[ab,aI,av,Cy]
    refine((?_:All2 (RdC w L σ β) _ _).append (an.append aY|>fun h=>by rw[hD]at h;exact h)).imp fun _ _=>RdC.mono (hd.2.trans ba.2) (Ext.refl _ _)
    have:=ak.take (i*2)
    rwa [E4,Cj om]at this
   obtain⟨aa,hle,aw⟩:=ba.1.lstRe (cap:=ah) (T:=103) hp hβ aR ay ag om om ax
   rw[ab]at aa
   exact done _ _ ah aH aa
 .have bt:i=rows.length:=om
  subst bt
  have bb:rows.flatten.drop (rows.length*2)= []:=Bq om
  by_cases af:rows.length+1<=c0
  .have ae:0<c0:=om
   obtain⟨k0,rfl,rfl⟩:=aq ae
   obtain⟨arr,T,fz,hh,hf,b4,aa,hle,aw⟩:=hm.lstPut (off:=rows.length*2) (vs:=x++rows.flatten.drop (rows.length*2)) (xs:=news) (rows2:=rows.take rows.length++x::rows.drop rows.length) hp hβ ae
    (by rw[bb,Az];exact an) (A5 _) ay a7 om om
   obtain⟨bp,b5,T2,bH,e1,bc,_,az,_,_⟩:=hok ae
   cases e1
   rw[hh]at bc;cases bc
   refine(yA9 k0 c0 rows.length arr T fz _ news w af om hh hf az _ _ rfl a8).mono ?_
   rintro e w' ⟨rfl,rfl⟩
   rw[ab]at aa
   exact done _ k0 c0 af aa
  .obtain⟨olds,hold,bd,aJ⟩:=yh3 (P:=prog) underlying99 aQ
   have aK:(Builtin.firstCells 2 rows.length (.slice a rows.length c0)).run prog w.drew= .ok olds.toArray w.drew:=by
    by_cases ae:0<c0
    .obtain⟨k0,rfl,rfl⟩:=aq ae
     exact hold
    .have bu:rows= []:=B7 om
     subst bu
     have bw:olds= []:=B7 (by rw[bd];simp)
     subst bw
     cases a with
     |none=>exact(Src.ofNil (P:=prog) (size:=2) w underlying99 0).cellsD
     |some a0=>exact(Src.ofSlice (P:=prog) (size:=2) w underlying99 a0 0 0 [] sm (fun j u h=>by simp at h) (fun _ h=>by cases h)).cellsD
   obtain⟨ah,al,aH,ax,aI,ai⟩:=yA8 a c0 rows.length (.slice (some ⟨vb,0*2,none⟩) 1 cq) olds news w om ar a1 aK bd _ _ rfl a8
   refine ai.mono ?_
   rintro e w' ⟨rfl,rfl⟩
   have hd:=hm.drew
   have ag:All2 (RdC w.drew L σ β) (rows.take rows.length++x::rows.drop rows.length).flatten (al.toList.take ((rows.take rows.length++x::rows.drop rows.length).length*2)):=by
    rw[ab,aI,av,bb,Az,Al om]
    exact(aJ.append an).imp fun _ _=>RdC.mono hd.2 (Ext.refl _ _)
   obtain⟨aa,hle,aw⟩:=hd.1.lstRe (cap:=ah) (T:=103) hp hβ aR ay ag om om ax
   rw[ab]at aa
   exact done _ _ ah aH aa
end Go.Proofs.YtefbicjgbaaieaaGreat
namespace Go.Proofs.YtefbicjgbaaieaaGreat
open Go Go.Vx R Go.Proofs.Tryz
set_option maxRecDepth 100000
def nRow (x:Int×List GSpan×Nat):List V:= [.int .i64 x.1,.sl (.app (x.2.2+2)) (x.2.1.map GSpan.row)]
def gS (b:List V) (rows:List (List V)) (A:List Nat):St:= .box b:: .lst rows 2::A.map (fun n=>Ob.app n 2)
def nSt (N:List (Int×List GSpan×Nat)) (A:List Nat):St:=gS [.lsv 1 2 N.length 0 N.length] (N.map nRow) A
structure NOk (N:List (Int×List GSpan×Nat)) (A:List Nat):Prop where
 app: ∀x∈N,A[x.2.2]? =some x.2.1.length
 ids:(N.map (·.2.2)).Nodup
 asc:(N.map (·.1)).Pairwise (· < ·)
def uOf (N:List (Int×List GSpan×Nat)):List (Int×List GSpan):=N.map fun x=>(x.1,x.2.1)
def addF (rng:Int) (x:GSpan) (U:List (Int×List GSpan)):List (Int×List GSpan):=
 if(U.map (·.1)).contains rng=true then U.modify (lowF (U.map (·.1)) rng) (fun y=>(y.1,if y.2.contains x=true then y.2 else y.2++ [x]))
 else U.take (lowF (U.map (·.1)) rng)++(rng,[x])::U.drop (lowF (U.map (·.1)) rng)
def zq9 (rng:Int) (x:GSpan) (U:List (Int×List GSpan)):List (Int×List GSpan):=if(Op.bytesLess x.hi x.lo||x.hi==x.lo)=true then U else addF rng x U
section
variable {b:List V} {rows:List (List V)} {A:List Nat} {τ:St}
theorem yD:(gS b rows A).length=A.length+2:=by simp[gS]
theorem yA1:(gS b rows A++τ)[1]? =some (.lst rows 2):=rfl
theorem yK2 {h:0<(gS b rows A).length}:(gS b rows A)[0]'h= .box b:=rfl
theorem yr9 {h:1<(gS b rows A).length}:(gS b rows A)[1]'h= .lst rows 2:=rfl
theorem xN7:(gS b rows A++τ)[A.length+3]? =τ[1]? :=by rw[Am (by rw[yD];omega),yD];congr 1;omega
theorem xN8:(gS b rows A++τ)[A.length+4]? =τ[2]? :=by rw[Am (by rw[yD];omega),yD];congr 1;omega
theorem xd7 {i n:Nat} (h:A[i]? =some n):(gS b rows A++τ)[i+2]? =some (.app n 2):=by
 have hi:=(A3.1 h).1
 rw[Ah (by rw[yD];omega)]
 show(A.map (fun n=>Ob.app n 2))[i]? =_
 rw[B2,h];rfl
theorem xN9 {r':List (List V)}:(gS b rows A++τ).set 1 (.lst r' 2)=gS b r' A++τ:=rfl
theorem xO0 {i m:Nat} (h:i<A.length):(gS b rows A++τ).set (i+2) (.app m 2)=gS b rows (A.set i m)++τ:=by
 rw[E3 _ _ (by rw[yD];omega)]
 show Ob.box b:: .lst rows 2::(A.map (fun n=>Ob.app n 2)).set i (.app m 2)++τ=_
 rw[<-E8];rfl
end
variable {k:Nat}{N:List (Int×List GSpan×Nat)}{A:List Nat}{rng:Int}{x:GSpan}{sp:List GSpan}
theorem xc0 (N:List (Int×List GSpan×Nat)):za7 (N.map nRow) 0 N.length=(uOf N).map uRow:=by
 unfold za7 uOf
 rw[Bg,Al sm,Bk,Bk]
 rfl
theorem xC2 (N:List (Int×List GSpan×Nat)):xM (N.map nRow)=true:=by simp[xM,nRow,zy4]
theorem xB8 (v:Int): ∀l:List Int,l.Pairwise (· < ·)-> ∃i,i<=l.length/\(∀k (h:k<l.length),k<i->l[k]<v)/\(∀k (h:k<l.length),i<=k->v<=l[k])
 | [],_=>⟨0,A5 _,fun k h=>absurd h (Bc _),fun k h=>absurd h (Bc _)⟩
 |a::l,hp=>by
  obtain⟨i,h0,h1,h2⟩:=xB8 v l (Bw.1 hp).2
  by_cases ha:a<v
  .refine⟨i+1,by simp;omega,fun k h hk=> ?_,fun k h hk=> ?_⟩
   .match k with
    |0=>exact ha
    |k+1=>exact h1 k (by simpa using h) om
   .match k with
    |0=>omega
    |k+1=>exact h2 k (by simpa using h) om
  .refine⟨0,A4 _,fun k h hk=>absurd hk (Bc _),fun k h hk=> ?_⟩
   match k with
   |0=>simp;omega
   |k+1=>
    have aa:k<l.length:=by simpa using h
    have:=(Bw.1 hp).1 l[k] (Aa aa)
    simp only[List.getElem_cons_succ]
    omega
theorem yt3 {l:List Int} {v:Int} (hp:l.Pairwise (· < ·)) (hk:lowF l v=k):k<=l.length/\(∀j (h:j<l.length),j<k->l[j]<v)/\(∀j (h:j<l.length),k<=j->v<=l[j])/\(if h:k<l.length then l[k]==v else false)=l.contains v:=by
 obtain⟨i,h0,h1,h2⟩:=xB8 v l hp
 have:=xB7 l v i h0 h1 h2
 rw[hk]at this
 subst this
 exact⟨h0,h1,h2,xf4 l v hp k h1 h2⟩
theorem yp9 {U:List (Int×List GSpan)} (hk:lowF (U.map (·.1)) rng=k) (aa:(U.map (·.1)).contains rng=true) (hU:U[k]? =some (rng,sp)) (hx:sp.contains x=true):addF rng x U=U:=by
 unfold addF
 rw[if_pos aa,hk]
 refine Bt fun j=> ?_
 rw[List.getElem?_modify]
 by_cases q:k=j
 .subst q;rw[hU];simp at hx;simp[hx]
 .simp[q]
theorem yG1 {U:List (Int×List GSpan)} (hk:lowF (U.map (·.1)) rng=k) (aa:(U.map (·.1)).contains rng=true) (hU:U[k]? =some (rng,sp)) (hx:sp.contains x=false):addF rng x U=U.set k (rng,sp++ [x]):=by
 unfold addF
 rw[if_pos aa,hk]
 refine Bt fun j=> ?_
 rw[List.getElem?_modify,List.getElem?_set]
 by_cases q:k=j
 .subst q
  have hl:=(A3.1 hU).1
  rw[hU];simp at hx;simp[hx,hl]
 .simp[q]
theorem xj5 {y:Int×List GSpan×Nat} (h:N[k]? =some y):(uOf N)[k]? =some (y.1,y.2.1):=by
 unfold uOf;rw[B2,h];rfl
theorem zS8 {α β:Type} (f:α->β) {l:List α} {a b:α} (h:l[k]? =some a) (hf:f b=f a):(l.set k b).map f=l.map f:=by
 refine Bt fun j=> ?_
 rw[B2,B2,List.getElem?_set]
 by_cases q:k=j
 .subst q
  have hl:=(A3.1 h).1
  simp[hl,hf,(A3.1 h).2]
 .simp[q]
theorem NOk.upd (h:NOk N A) {r:Int} {id:Nat} (hk:N[k]? =some (r,sp,id)) (x:GSpan):NOk (N.set k (r,sp++ [x],id)) (A.set id (sp.length+1)):=by
 have hid:=h.app _ (As hk)
 have aa:=(A3.1 hid).1
 refine⟨fun y hy=> ?_, ?_, ?_⟩
 .obtain⟨j,hj⟩:=Aq.1 hy
  rw[List.getElem?_set]at hj
  by_cases q:k=j
  .subst q
   have hl:=(A3.1 hk).1
   simp[hl]at hj
   subst hj
   simp[aa]
  .rw[if_neg q]at hj
   have ab:id≠y.2.2:=fun e=>by
    have hi:=h.ids
    have h1:(N.map (·.2.2))[k]? =some id:=by rw[B2,hk];rfl
    have h2:(N.map (·.2.2))[j]? =some y.2.2:=by rw[B2,hj];rfl
    obtain⟨l1,e1⟩:=A3.1 h1
    obtain⟨l2,e2⟩:=A3.1 h2
    exact q ((Er hi).1 (e1.trans (e.trans e2.symm)))
   rw[Bu ab]
   exact h.app y (As hj)
 .rw[zS8 (fun y:Int×List GSpan×Nat=>y.2.2) (b:=(r,sp++ [x],id)) hk rfl];exact h.ids
 .rw[zS8 (fun y:Int×List GSpan×Nat=>y.1) (b:=(r,sp++ [x],id)) hk rfl];exact h.asc
theorem ys0 (N:List (Int×List GSpan×Nat)) (A:List Nat) (h:NOk N A):(gS [.lsv 1 2 N.length 0 N.length] (N.map nRow) A).all (ltOb (A.length+2))=true:=by
 have hi: ∀x∈N,x.2.2<A.length:=fun x hx=>(A3.1 (h.app x hx)).1
 simp only[gS,Ar,A6]
 refine⟨by simp[ltOb,ltC,ltK], ?_,by simp[ltOb]⟩
 simp only[ltOb,List.all_map,Af]
 intro x hx
 simp[nRow,ltC,ltK,hi x hx]
theorem NOk.new (h:NOk N A) (x:GSpan) (_hk:k<=N.length)
  (h1: ∀j (h:j<((uOf N).map (·.1)).length),j<k->((uOf N).map (·.1))[j]<rng) (h2: ∀j (h:j<((uOf N).map (·.1)).length),k<=j->rng<=((uOf N).map (·.1))[j]) (h3:((uOf N).map (·.1)).contains rng=false):
  NOk (N.take k++(rng,[x],A.length)::N.drop k) (A++ [1]):=by
 have hi: ∀y∈N,y.2.2<A.length:=fun y hy=>(A3.1 (h.app y hy)).1
 have hu:(uOf N).map (·.1)=N.map (·.1):=by unfold uOf;rw[Bk];rfl
 simp only[hu]at h1 h2 h3
 refine⟨fun y hy=> ?_, ?_, ?_⟩
 .rcases Av.1 hy with hy|hy
  .have hm:=Bs hy
   rw[Ah (hi y hm)];exact h.app y hm
  .rcases Ae.1 hy with rfl|hy
   .simp
   .have hm:=C6 hy
    rw[Ah (hi y hm)];exact h.app y hm
 .have hp:(N.take k++(rng,[x],A.length)::N.drop k).Perm ((rng,[x],A.length)::N):=by
   refine E0.trans (List.Perm.cons _ ?_)
   rw[Bf]
  have:=(hp.map (fun y:Int×List GSpan×Nat=>y.2.2)).nodup_iff
  rw[this,Aj,C9]
  refine⟨fun hm=> ?_,h.ids⟩
  obtain⟨y,hy,e⟩:=Ac.1 hm
  have:=hi y hy
  simp only at e
  omega
 .have aa:=h.asc
  rw[Ca,Aj,List.map_take,Eu]
  rw[<-Bf k (N.map (·.1))]at aa
  obtain⟨p1,p2,p3⟩:=Cd.1 aa
  refine Cd.2 ⟨p1,Bw.2 ⟨fun b hb=> ?_,p2⟩,fun a ha b hb=> ?_⟩
  .obtain⟨j,hj,e⟩:=Dg.1 hb
   rw[List.getElem_drop]at e
   rw[De]at hj
   have ab:=h2 (k+j) om om
   rw[e]at ab
   have ae:rng≠b:=fun q=>by
    rw[<-q]at hb
    have:(N.map (·.1)).contains rng=true:=E1.2 (C6 hb)
    rw[this]at h3;cases h3
   omega
  .have ad:a<rng:=by
    obtain⟨j,hj,e⟩:=Dg.1 ha
    rw[Eo]at e
    rw[Bi]at hj
    rw[<-e]
    exact h1 j om om
   rcases Ae.1 hb with rfl|hb
   .exact ad
   .exact p3 a ha b hb
theorem xC4 (h:NOk N A) {M:List (Int×List GSpan)} (hk:k<=N.length) (hM:(uOf N).take k++(rng,[x])::(uOf N).drop k=M)
  (h1: ∀j (h:j<((uOf N).map (·.1)).length),j<k->((uOf N).map (·.1))[j]<rng) (h2: ∀j (h:j<((uOf N).map (·.1)).length),k<=j->rng<=((uOf N).map (·.1))[j]) (h3:((uOf N).map (·.1)).contains rng=false) (o1 o2:Ob):
  wret (some (.tup [])) (A.length+2) (fun r s=>r=V.tup []/\ ∃N' A',s=gS [V.lsv 1 2 N'.length 0 N'.length] (List.map nRow N') A'/\NOk N' A'/\uOf N'=M)
   (gS [.lsv 1 2 (N.length+1) 0 (N.length+1)] ((N.take k).map nRow++ [.int .i64 rng,.sl (.app (A.length+4)) [x.row]]::(N.drop k).map nRow) A++ [o1,o2,.app 1 2]):=by
 have hi: ∀y∈N,y.2.2<A.length:=fun y hy=>(A3.1 (h.app y hy)).1
 have hok:=h.new x hk h1 h2 h3
 have hlen:(N.take k++(rng,[x],A.length)::N.drop k).length=N.length+1:=by simp;omega
 obtain⟨pick,hp⟩: ∃pick,pick=List.range (A.length+2)++ [A.length+4]:=⟨_,rfl⟩
 have ai:pick.length=A.length+3:=by rw[hp];simp
 have ab: ∀i,i<A.length+2->pick[i]? =some i:=fun i hi=>by
  rw[hp,Ah (by simpa using hi),C4 hi]
 have af:pick[A.length+2]? =some (A.length+4):=by
  rw[hp,Am sm];simp
 have ag: ∀(M i:Nat),i<A.length+2->ren pick M i=i:=fun M i hi=>by
  unfold ren
  rw[dif_pos om]
  have:=ab i hi
  rw[A0 om]at this
  exact Option.some.inj this
 have aj: ∀M:Nat,ren pick M (A.length+2)=A.length+4:=fun M=>by
  unfold ren
  rw[dif_pos om]
  have:=af
  rw[A0 om]at this
  exact Option.some.inj this
 have ad: ∀(M:Nat) (y:Int×List GSpan×Nat),y∈N->(nRow y).map (renC (ren pick M))=nRow y:=fun M y hy=>by
  have:=hi y hy
  simp[nRow,renC,renK,ag M (y.2.2+2) om]
 refine zQ1 pick ?_ ab (s:=nSt (N.take k++(rng,[x],A.length)::N.drop k) (A++ [1])) (by unfold nSt;rw[yD,ai];simp) (fun i j o aa ho=> ?_) (zC rfl) ⟨rfl,_,_,rfl,hok, ?_⟩
 .rw[hp]
  refine Co.2 ⟨Bm,sm,fun a ha b hb=> ?_⟩
  simp at ha hb
  omega
 .unfold nSt at ho
  match i with
  |0=>
   rw[ab 0 om]at aa;cases aa
   cases ho
   show some (Ob.box _)=_
   simp[yF,renC,renK,ag _ 1 om]
   omega
  |1=>
   rw[ab 1 om]at aa;cases aa
   cases ho
   show some (Ob.lst _ 2)=_
   simp only[yF,Ca,Aj,Bk]
   congr 2
   congr 1
   .refine B6 fun y hy=> ?_
    exact(ad _ y (Bs hy)).symm
   .congr 1
    .simp[nRow,renC,renK,aj]
    .refine B6 fun y hy=> ?_
     exact(ad _ y (C6 hy)).symm
  |i+2=>
   have ah:((A++ [1]).map fun n=>Ob.app n 2)[i]? =some o:=ho
   rw[B2,B0]at ah
   obtain⟨n,hn,rfl⟩:=ah
   have ak:=(A3.1 hn).1
   by_cases ae:i<A.length
   .rw[ab (i+2) om]at aa;cases aa
    rw[Ah ae]at hn
    exact xd7 hn
   .have ae:i=A.length:=by simp at ak;omega
    subst ae
    rw[af]at aa;cases aa
    simp at hn
    subst hn
    rw[xN8];rfl
 .rw[<-hM]
  unfold uOf
  rw[Ca,Aj,List.map_take,Eu]
theorem yW3 (N:List (Int×List GSpan×Nat)) (A:List Nat) (h:NOk N A) (rng:Int) (x:GSpan) (hN:N.length<=1000) (hS: ∀y∈N,y.2.1.length<=1000000):
  VCalls prog 63 [.ptr 0 0,.int .i64 rng,.agg x.row] (nSt N A) (fun r s=>r= .tup []/\ ∃N' A',s=nSt N' A'/\NOk N' A'/\uOf N'=zq9 rng x (uOf N)):=by
 have ar:=wf6 (uOf N) rng (by unfold uOf;simpa using hN) (by unfold uOf;rw[Bk];exact h.asc)
 have ae:lowF ((uOf N).map (·.1)) rng<=N.length:=by
  unfold lowF uOf
  refine Ax (Bo _ _) sm
 obtain⟨k,hk⟩:=eX (lowF ((uOf N).map (·.1)) rng)
 obtain⟨there,af⟩:=eX (((uOf N).map (·.1)).contains rng)
 rw[hk,af]at ar
 rw[hk]at ae
 have au:((uOf N).map (·.1)).Pairwise (· < ·):=by unfold uOf;rw[Bk];exact h.asc
 obtain⟨_,av,aw,aa⟩:=yt3 au hk
 rw[af]at aa
 generalize hM:zq9 rng x (uOf N)=M
 unfold zq9 at hM
 refine VCalls.introV (A.length+2) func63 ntmps63 results63 rfl (by simp[nSt,gS]) (Ci rfl) fun c hc hb=> ?_
 refine zr9 32 dC ?_
 refine zA ?_
 unfold nSt
 rw[<-Az (gS _ _ _)]
 simp[go_sem,yD]
 refine(A9 (Op.bytesLess x.hi x.lo||x.hi==x.lo)).elim (fun q=> ?_) (fun q=> ?_)
 .simp only[q,if_true]at hM
  simp[go_sem,q]
  refine xA (A.length+2) (s:=gS [.lsv 1 2 N.length 0 N.length] (N.map nRow) A) (by rw[<-yD (b:= [.lsv 1 2 N.length 0 N.length]) (rows:=N.map nRow),List.take_left]) yD (ys0 _ _ h) (A5 _) (zC rfl) ⟨rfl,N,A,rfl,h,hM⟩
 simp only[q]at hM
 simp[go_sem,q,yD,yK2]
 refine yS3 ar cB (.step 1 2 (N.map nRow) yA1 (xC2 N) (.refl _ _)) ?_ rfl ?_
 .simp only[Az,Aj,Bx,frzS,frzA,frzC,frzK,B1,Ad,A5,and_self,if_true,xc0]
  exact⟨zK,zC rfl,zC rfl,tV⟩
 simp[go_sem]
 rw[if_neg dC]at hM
 refine(A9 there).elim (fun q2=> ?_) (fun q2=> ?_)
 .have ab:k<N.length:=by
   rw[q2]at aa
   split at aa
   .rename_i h1;unfold uOf at h1;simpa using h1
   .cases aa
  obtain⟨⟨r0,sp,id⟩,ad⟩: ∃y,N[k]=y:=⟨_,rfl⟩
  have a6:r0=rng:=by
   rw[q2,dif_pos (by unfold uOf;simpa using ab)]at aa
   unfold uOf at aa
   simpa[ad]using aa
  subst a6
  have aj:(r0,sp,id)∈N:=ad▸Aa ab
  have hid:A[id]? =some sp.length:=h.app _ aj
  have aA:sp.length<=1000000:=hS _ aj
  have ax:=(A3.1 hid).1
  have al:=xz9 sp x (by unfold maxLen;omega)
  simp[go_sem,q2]
  refine yS [(9,0)] (A.length+3) (by simp[yD]) kR kR ?_
  simp[go_sem,yD,yK2,yr9,ab,ad,nRow]
  refine pD al ?_
  simp[go_sem]
  refine(A9 (sp.contains x)).elim (fun q3=> ?_) (fun q3=> ?_)
  .have ag:=(yp9 hk (af.trans q2) (xj5 (by rw[A0 ab,ad])) q3).symm.trans hM
   simp only[List.contains_eq_mem]at q3
   simp[go_sem,q3]
   exact xA (A.length+2) (s:=gS [.lsv 1 2 N.length 0 N.length] (N.map nRow) A) (by rw[<-yD (b:= [.lsv 1 2 N.length 0 N.length]) (rows:=N.map nRow),List.take_left]) yD (ys0 _ _ h) (A5 _) (zC rfl) ⟨rfl,N,A,rfl,h,ag⟩
  .have ag:=(yG1 hk (af.trans q2) (xj5 (by rw[A0 ab,ad])) q3).symm.trans hM
   simp only[List.contains_eq_mem]at q3
   simp[go_sem,q3]
   refine wQ [(13,2),(15,3),(18,4)] 2 (by simp[yD]) kR kR ?_
   simp[go_sem,yD,yK2,yr9,ab,ad,nRow,xd7 hid,xO0 ax]
   refine zI ⟨om,zV rfl⟩ ?_
   simp[go_sem,yD,yr9,ab,ad,nRow]
   have ay:N[k]? =some (r0,sp,id):=by rw[A0 ab,ad]
   have ak:=h.upd ay x
   refine xA (A.length+2) (s:=nSt (N.set k (r0,sp++ [x],id)) (A.set id (sp.length+1))) ?_ (by unfold nSt;rw[yD,Db]) (by have:=ys0 _ _ ak;rw[show(A.set id (sp.length+1)).length=A.length by simp]at this;unfold nSt;exact this) (A5 _) (zC rfl) ⟨rfl,_,_,rfl,ak, ?_⟩
   .rw[Cp (by rw[Db,yD,Db];exact A5 _),Al (by rw[Db,yD,Db];exact A5 _)]
    unfold nSt
    rw[Db,E8]
    simp[gS,nRow,GSpan.row]
   .rw[<-ag]
    unfold uOf
    rw[E8]
 .have ag:(uOf N).take k++(rng,[x])::(uOf N).drop k=M:=by rw[<-hM];unfold addF;rw[af,q2,if_neg dC,hk]
  simp[go_sem,q2,yD,yK2]
  have ah:=xA6 (gS [.lsv 1 2 N.length 0 N.length] (N.map nRow) A++ [.box [.str x.lo,.str x.hi],.lst [[.int .i64 rng,.sl .full []]] 2]) 1 (A.length+2+1) (N.map nRow) [.int .i64 rng,.sl .full []] k yA1 xN7 om (by simpa using ae) (by simp;omega)
  simp only[B1,xN9]at ah
  obtain⟨R,hR⟩: ∃R,List.take k (List.map nRow N)++ [V.int IntKind.i64 rng,V.sl Tag.full []]::List.drop k (List.map nRow N)=R:=⟨_,rfl⟩
  rw[hR]at ah
  have az:k<=(N.map nRow).length:=by simpa using ae
  have an:R.length=N.length+1:=by rw[<-hR];simp;omega
  have a7:R[k]? =some [.int .i64 rng,.sl .full []]:=by
   rw[<-hR,Am (by simp;omega),Bi,Cj az,Nat.sub_self];rfl
  have ao:k<N.length+1:=om
  have a8:k<R.length:=om
  have ai:R[k]= [.int .i64 rng,.sl .full []]:=by have:=a7;rw[A0 a8]at this;exact Option.some.inj this
  have al:=xz9 [] x sm
  have aq:(k:Int)<N.length+1:=om
  refine zu2 ah cB ?_
  rintro r s ⟨rfl,rfl⟩ _
  simp[go_sem,yD,yK2]
  refine yS [(9,0)] (A.length+4) (by simp[yD]) kR kR ?_
  simp[go_sem,yD]
  refine zI aq ?_
  simp[go_sem,yD,yr9,ao,ai,an]
  refine pD al ?_
  simp[go_sem]
  refine wQ [(13,2),(15,3),(18,4)] 2 (by simp[yD]) kR kR ?_
  simp[go_sem,yD]
  refine zI aq ?_
  simp[go_sem,yD,yr9,ao,ai,an]
  refine zI ⟨fun _ q=>by simp at q,zV rfl⟩ ?_
  simp[go_sem]
  refine zI aq ?_
  simp[go_sem,yD,yr9,ao,ai,an]
  have a1:R.set k [.int .i64 rng,.sl (.app (A.length+2+2)) [[.str x.lo,.str x.hi]]]=(N.take k).map nRow++ [.int .i64 rng,.sl (.app (A.length+4)) [x.row]]::(N.drop k).map nRow:=by
   rw[<-hR,List.set_append_right _ _ (by simp;omega),Bi,Cj az,Nat.sub_self,Dc,List.map_take,Eu]
   rfl
  rw[a1]
  exact xC4 h (by simpa using ae) ag av aw (by rw[af,q2]) _ _
theorem zk9 (id off s:Nat) (cells:List V) {P:Program} {c:Ctx} {nt:Nat} {e:Env} {σ:St} {Q:QT} {y:Code} (h0:0<s) (hσ:σ[id]? =some (.box cells)) (hc:cells[off]? =some (.sl .full []))
  (hy:wVW P c nt y Q fx fx e (σ.set id (.box (cells.set off (.lsv σ.length s 0 0 0)))++ [.lst [] s])):wVW P c nt y Q fx fx e σ:=by
 intro a w L β hs
 obtain⟨x,h1,h2⟩:=xg3 hs.mem h0 hσ hc
 exact hy a w L (β++ [x]) ⟨h1,hs.size,hs.defs,fun k=>(hs.env k).mono (Le.refl _ _) h2⟩
abbrev US:=List (Int×List GSpan)
def Bd (n:Nat) (U:US):Prop:=U.length<=n/\ ∀y∈U,y.2.length<=n
theorem Bd.need {n:Nat} {U:US} (h:Bd n U) (r:Int) (x:GSpan):Bd (n+1) (zq9 r x U):=by
 have up:Bd (n+1) U:=⟨by have:=h.1;omega,fun y hy=>by have:=h.2 y hy;omega⟩
 unfold zq9
 split
 .exact up
 .unfold addF
  split
  .refine⟨by rw[List.length_modify];exact up.1,fun y hy=> ?_⟩
   obtain⟨j,hj⟩:=Aq.1 hy
   rw[List.getElem?_modify]at hj
   split at hj
   .rw[Option.map_eq_map,B0]at hj
    obtain⟨z,hz,rfl⟩:=hj
    have aa:=h.2 z (As hz)
    simp only
    split
    .omega
    .simp;omega
   .simp at hj
    exact up.2 y (As hj)
  .refine⟨by have:=h.1;simp;omega,fun y hy=> ?_⟩
   rcases Av.1 hy with hy|hy
   .exact up.2 y (Bs hy)
   .rcases Ae.1 hy with rfl|hy
    .simp
    .exact up.2 y (C6 hy)
def zM0 (t:Int) (b:List UInt8×List UInt8) (U:US) (rg:Int):US:=zq9 (yV t rg).1 ⟨b.1,b.2⟩ U
def yG (name:List UInt8):Int:=za2 (fun T:GTable=>T.name==name) tabsS 0
def zB8 (rowF:Int->List GExpr->US->US) (U:US) (st:GStmt):US:=
 if yG st.table<0 then U else if st.kind=2 then st.rows.foldl (fun U r=>rowF (yG st.table) r U) U
 else(xS (yG st.table) st).foldl (zM0 (yG st.table) (zg4 tabsS (yG st.table) st)) U
def cntF (st:GStmt):Nat:=if st.kind=2 then st.rows.length else 2
theorem yx5: ∀(n:Nat) (q l:List GExpr),(bfs n q l).length<=l.length+n
 |0,_,_=>A5 _
 |n+1,[],l=>by rw[bfs];omega
 |n+1,e::q,l=>by
  rw[bfs]
  split
  .have:=yx5 n (q++e.args) l;omega
  .have:=yx5 n q (l++ [e]);simp at this;omega
theorem zK9 (st:GStmt):(zs5 st).length<=4096:=by
 unfold zs5
 split
 .have:=yx5 4096 [st.where_] [];simpa using this
 .simp
theorem zr5 (name:List UInt8):yG name= -1∨yG name=0∨yG name=1∨yG name=2:=by
 have h:=zu6 (fun T:GTable=>T.name==name) tabsS 0
 have hl:tabsS.length=3:=rfl
 rw[hl]at h
 unfold yG
 omega
theorem yI0: ∀(l:List GExpr) (rs:List Int) (r:Int),r∈cutR l rs->r∈rs
 | [],_,_,h=>h
 |e::l,rs,r,h=>by
  have h1:cutR (e::l) rs=cutR l (match zc6 e [82]with|none=>rs|some (s,v)=>if s= [61]/\v.kind=2 then zh5 v.n rs else rs):=rfl
  rw[h1]at h
  have:=yI0 l _ r h
  split at this
  .exact this
  .split at this
   .exact(Aw.1 this).1
   .exact this
theorem yC8 {t:Int} {st:GStmt} {r:Int} (h:r∈xS t st):r= -1∨r=0∨r=1:=by
 unfold xS at h
 split at h
 .have:=yI0 _ _ _ h;simp at this;omega
 .split at h
  .simp at h;omega
  .split at h
   .simp at h;omega
   .simp at h
theorem zS2 (t:Int) (st:GStmt):(xS t st).length<=2:=by
 unfold xS
 split
 .exact ye6 _ _
 .split
  .simp
  .split<;>simp
def VOk (st:GStmt):Prop:= ∀e∈zs5 st,∀name s v,zc6 e name=some (s,v)->v.ok
theorem wg2 {b:List V} {rows:List (List V)} {τ:St} {h:0<(gS b rows A++τ).length}:(gS b rows A++τ)[0]'h= .box b:=rfl
theorem yg3 {b:List V} {rows:List (List V)} {x:Ob} {τ:St}:(gS b rows A++x::τ).take (A.length+3)=gS b rows A++ [x]:=by
 have e:(gS b rows A++ [x]).length=A.length+3:=by rw[Ak,yD];rfl
 rw[show gS b rows A++x::τ=(gS b rows A++ [x])++τ by simp,<-e,List.take_left]
theorem zn4 (N:List (Int×List GSpan×Nat)) (A:List Nat):(nSt N A).length=A.length+2:=yD
theorem zz8 (h:NOk N A):(nSt N A).all (ltOb (nSt N A).length)=true:=by rw[zn4];exact ys0 N A h
theorem yN0 (h:NOk N A):(nSt N A++ [.box [.sl .ro xG,.sl .ro (tabsS.map GTable.row)]]:St).all (ltOb (A.length+3))=true:=by
 rw[Eb,A6]
 refine⟨?_,by simp[ltOb,ltC,ltK]⟩
 have:=ys0 N A h
 rw[Af]at this⊢
 exact fun o ho=>zW5 om (this o ho)
theorem xi8:([.box [.sl .ro xG,.sl .ro (tabsS.map GTable.row)]]:St).all (ltOb 0)=true:=by simp[ltOb,ltC,ltK]
def RowC (rowF:Int->List GExpr->US->US) (st:GStmt):Prop:= ∀r∈st.rows,∀N A,NOk N A->Bd 1000 (uOf N)->
 VCalls prog 59 [.ptr 0 0,schR tabsS,.int .i64 (yG st.table),.sl .ro (r.map GExpr.row)] (nSt N A) (fun x s=>x= .tup []/\ ∃N' A',s=nSt N' A'/\NOk N' A'/\uOf N'=rowF (yG st.table) r (uOf N))
theorem xI2 {n:Nat} (h:Bd n (uOf N)):N.length<=n/\ ∀y∈N,y.2.1.length<=n:=by
 unfold Bd uOf at h
 refine⟨by simpa using h.1,fun y hy=> ?_⟩
 have:=h.2 (y.1,y.2.1) (Ac.2 ⟨y,hy,rfl⟩)
 exact this
theorem xL1 (rowF:Int->List GExpr->US->US) (ar: ∀t r n U,Bd n U->Bd (n+1) (rowF t r U)) (l:GLot) (hl:l.stmts.length<=maxLen) (hv: ∀st∈l.stmts,VOk st) (an:(l.stmts.map cntF).sum<=900) (a6: ∀st∈l.stmts,st.rows.length<=maxLen) (ao: ∀st∈l.stmts,st.kind=2->yG st.table≠ -1->RowC rowF st):
  Pure prog 31 [schR tabsS,.agg l.row] (.sl .ro ((l.stmts.foldl (zB8 rowF) []).map uRow)):=by
 obtain⟨L,hL⟩:=eX l.stmts
 rw[hL]at hl hv an a6 ao⊢
 generalize hM:L.foldl (zB8 rowF) []=M
 refine iV 0 func31 ntmps31 results31 fun c hc hb=> ?_
 refine zA ?_
 simp[go_sem,schR,hL]
 refine zk9 2 0 2 [.sl .full []] dC sg sm ?_
 refine zH (S:=Nat×List (Int×List GSpan×Nat)×List Nat) [2,5,20,21,22] (fun u=> [.ptr (u.2.2.length+2) 0,.ptr 0 0,.sl .ro (L.map GStmt.row),.int .i64 L.length,.int .i64 u.1])
  (fun u=>nSt u.2.1 u.2.2++ [.box [.sl .ro xG,.sl .ro (tabsS.map GTable.row)]]) (fun u=>L.length - u.1)
  (fun u=>u.1<=L.length/\NOk u.2.1 u.2.2/\(L.drop u.1).foldl (zB8 rowF) (uOf u.2.1)=M/\ ∃n,Bd n (uOf u.2.1)/\n+((L.drop u.1).map cntF).sum<=900) hc hb (0,[],[])
  ⟨A4 _,⟨fun x hx=>by simp at hx,D9,List.Pairwise.nil⟩,hM,0,⟨A5 _,fun y hy=>by simp[uOf]at hy⟩,by simpa using an⟩ ?_ ?_
 .exact zC9 [2,3,0] dC rfl ⟨by simp[go_sem,yF,renC,renK,ren],by simp[go_sem,yF],by simp[go_sem,yF,renC,renK],tV⟩ ⟨.inl (by simp[go_sem,renS,renA,renC,renK,ren]),.inl (by simp[go_sem,renS,renA,renC,renK,ren]),zK,zC rfl,zC rfl,tV⟩
 rintro⟨i,N,A⟩ ⟨hi,hok,hinv,n,ak,hn⟩
 simp only at hi hok hinv ak hn
 by_cases q:i<L.length
 rotate_left
 .rw[Ab om]at hinv
  have aG:uOf N=M:=hinv
  refine zA ?_
  unfold nSt
  simp[go_sem,q,wg2]
  refine yl9 1 2 (N.map nRow) yA1 (xC2 N) ?_
  simp only[frzS,frzA,frzC,frzK,B1,Ad,A5,and_self,if_true,xc0,aG]
  exact wG zK ⟨rfl,rfl⟩
 have ei:=zQ q (by unfold maxLen at hl;omega)
 obtain⟨st,au⟩:=eX (L[i])
 have ag:st∈L:=au▸Aa q
 rw[A8 q,au]at hinv hn
 rw[Aj,List.sum_cons]at hn
 rw[Bb]at hinv
 have av:=yT0 tabsS st.table dC
 rw[show za2 (fun t:GTable=>t.name==st.table) tabsS 0=yG st.table from rfl]at av
 obtain⟨t,ht⟩:=eX (yG st.table)
 have aH:=zr5 st.table
 rw[ht]at av aH
 refine zA ?_
 unfold nSt
 simp[go_sem,q,au,yD]
 refine zJ av cB (zN (by simp[go_sem,schR]) rfl) rfl ?_
 by_cases a7:t= -1
 .have hF:zB8 rowF (uOf N) st=uOf N:=by unfold zB8;rw[ht,if_pos om]
  rw[hF]at hinv
  subst a7
  simp[go_sem,ei]
  refine zG (i+1,N,A) ⟨by simp only;omega,⟨by simp only;omega,hok,hinv,n,ak,by simp only;omega⟩, ?_⟩
  exact at_n (A.length+3) yg3 (by simp[yD]) (yN0 hok) (A4 _) (zF sg (by simp[ltS,ltA,ltC,ltK]))
 have aw: ¬t<0:=om
 have a8:decide (t<0)=false:=decide_eq_false aw
 by_cases hk:st.kind=2
 .have ax:(st.kind==2)=true:=by simpa using hk
  simp[go_sem,a8,ax,yD]
  have aI:=ao st ag hk (by rw[ht];exact a7)
  have al:=a6 st ag
  have ay:cntF st=st.rows.length:=by unfold cntF;rw[if_pos hk]
  rw[ay]at hn
  have hF:zB8 rowF (uOf N) st=st.rows.foldl (fun U r=>rowF t r U) (uOf N):=by unfold zB8;rw[ht,if_neg aw,if_pos hk]
  rw[hF]at hinv
  obtain⟨U2,ah⟩:=eX (st.rows.foldl (fun U r=>rowF t r U) (uOf N))
  rw[ah]at hinv
  refine zH (S:=Nat×List (Int×List GSpan×Nat)×List Nat) [2,5,8,20,21,22,68,69,70] (fun u=> [.ptr (u.2.2.length+2) 0,.ptr 0 0,.int .i64 t,.sl .ro (L.map GStmt.row),.int .i64 L.length,.int .i64 i,.sl .ro (st.rows.map fun l=> [V.sl .ro (l.map GExpr.row)]),.int .i64 st.rows.length,.int .i64 u.1])
   (fun u=>nSt u.2.1 u.2.2++ [.box [.sl .ro xG,.sl .ro (tabsS.map GTable.row)]]) (fun u=>st.rows.length - u.1)
   (fun u=>u.1<=st.rows.length/\NOk u.2.1 u.2.2/\(st.rows.drop u.1).foldl (fun U r=>rowF t r U) (uOf u.2.1)=U2/\ ∃m,Bd m (uOf u.2.1)/\m+(st.rows.length - u.1)+((L.drop (i+1)).map cntF).sum<=900) hc hb (0,N,A)
   ⟨A4 _,hok,ah,n,ak,by simp only;omega⟩ ?_ ?_
  .exact at_n (A.length+3) yg3 (by simp[zn4]) (yN0 hok) (A4 _) (zF sg (by simp[ltS,ltA,ltC,ltK]))
  rintro⟨j,N1,A1⟩ ⟨hj,ab,aa,m,ad,hm⟩
  simp only at hj ab aa ad hm
  by_cases qj:j<st.rows.length
  rotate_left
  .rw[Ab om]at aa
   have az:uOf N1=U2:=aa
   refine zA ?_
   simp[go_sem,qj,ei]
   refine zG (i+1,N1,A1) ⟨by simp only;omega,⟨by simp only;omega,ab,by rw[az];exact hinv,m,ad,by simp only;omega⟩, ?_⟩
   exact at_n (A1.length+3) (by rw[Al (by simp[zn4])];rfl) (by simp[yD]) (yN0 ab) (A4 _) (zF sg (by simp[ltS,ltA,ltC,ltK]))
  have ej:=zQ qj (by unfold maxLen at al;omega)
  obtain⟨r,hr⟩:=eX (st.rows[j])
  have aA:r∈st.rows:=hr▸Aa qj
  rw[A8 qj,hr,Bb]at aa
  have ae:=aI r aA N1 A1 ab ⟨by have:=ad.1;omega,fun y hy=>by have:=ad.2 y hy;omega⟩
  rw[ht]at ae
  refine zA ?_
  unfold nSt
  simp[go_sem,qj,hr,yD]
  refine zM4 ae cB (zz8 ab) xi8 ⟨zg2 (n:=(nSt N1 A1).length) (by simp[ltS,ltA,ltC,ltK,zn4]),zC rfl,zC rfl,zK,tV⟩ (fun r s h=>by
   obtain⟨rfl,N2,A2,rfl,h2,_⟩:=h
   exact⟨rfl,zz8 h2⟩) ?_
  rintro r s ⟨rfl,N2,A2,rfl,ai,aj⟩ hle σ' pick af
  simp[go_sem,ej]
  refine zG (j+1,N2,A2) ⟨by simp only;omega,⟨by simp only;omega,ai,by simp only;rw[aj];exact aa,m+1,by simp only;rw[aj];exact ar _ _ _ _ ad,by simp only;omega⟩, ?_⟩
  refine yG6 af ⟨.inl ?_,.inl ?_,zC rfl,zK,zC rfl,zC rfl,zK,zC rfl,.inl sg,tV⟩
  .have:=af.ren2 (M:=σ'.length) (i:=0) sm
   rw[zn4,yD]at this
   simp[go_sem,renS,renA,renC,renK]at this⊢
   exact this.symm
  .have:=af.ren1 (M:=σ'.length) (i:=0) (by rw[yD];omega)
   simp[go_sem,renS,renA,renC,renK,this]
 have ax:(st.kind==2)=false:=by simpa using hk
 have ay:cntF st=2:=by unfold cntF;rw[if_neg hk]
 rw[ay]at hn
 have aB:=yF7 xG tabsS t st dC (fun T hT=>by rw[show tabsS= [tabT,tabG,tabH] from rfl]at hT;simp at hT;rcases hT with rfl|rfl|rfl<;>decide) (by have:=zK9 st;unfold maxLen;omega) (hv st ag)
 have aC:=yp8 t st (by have:=zK9 st;unfold maxLen;omega)
 obtain⟨b,aD⟩:=eX (zg4 tabsS t st)
 obtain⟨rs,al⟩:=eX (xS t st)
 rw[aD]at aB
 have aE:=zS2 t st
 have aq:=fun r=>yC8 (t:=t) (st:=st) (r:=r)
 rw[al]at aC aE aq
 have hF:zB8 rowF (uOf N) st=rs.foldl (zM0 t b) (uOf N):=by unfold zB8;rw[ht,if_neg aw,if_neg hk,al,aD]
 rw[hF]at hinv
 obtain⟨U2,ah⟩:=eX (rs.foldl (zM0 t b) (uOf N))
 rw[ah]at hinv
 simp[go_sem,a8,ax,yD]
 refine zJ aB cB (zN sg rfl) rfl ?_
 simp[go_sem,xh5,yD]
 refine zJ aC cB (zN (by simp[go_sem,schR]) rfl) rfl ?_
 simp[go_sem]
 refine zH (S:=Nat×List (Int×List GSpan×Nat)×List Nat) [2,5,8,11,12,20,21,22,40,41,42] (fun u=> [.ptr (u.2.2.length+2) 0,.ptr 0 0,.int .i64 t,.str b.1,.str b.2,.sl .ro (L.map GStmt.row),.int .i64 L.length,.int .i64 i,.sl .ro (rs.map yQ),.int .i64 rs.length,.int .i64 u.1])
  (fun u=>nSt u.2.1 u.2.2++ [.box [.sl .ro xG,.sl .ro (tabsS.map GTable.row)]]) (fun u=>rs.length - u.1)
  (fun u=>u.1<=rs.length/\NOk u.2.1 u.2.2/\(rs.drop u.1).foldl (zM0 t b) (uOf u.2.1)=U2/\ ∃m,Bd m (uOf u.2.1)/\m+(rs.length - u.1)+((L.drop (i+1)).map cntF).sum<=900) hc hb (0,N,A)
  ⟨A4 _,hok,ah,n,ak,by simp only;omega⟩ ?_ ?_
 .exact at_n (A.length+3) yg3 (by simp[zn4]) (yN0 hok) (A4 _) (zF sg (by simp[ltS,ltA,ltC,ltK]))
 rintro⟨j,N1,A1⟩ ⟨hj,ab,aa,m,ad,hm⟩
 simp only at hj ab aa ad hm
 by_cases qj:j<rs.length
 rotate_left
 .rw[Ab om]at aa
  have az:uOf N1=U2:=aa
  refine zA ?_
  simp[go_sem,qj,ei]
  refine zG (i+1,N1,A1) ⟨by simp only;omega,⟨by simp only;omega,ab,by rw[az];exact hinv,m,ad,by simp only;omega⟩, ?_⟩
  exact at_n (A1.length+3) (by rw[Al (by simp[zn4])];rfl) (by simp[yD]) (yN0 ab) (A4 _) (zF sg (by simp[ltS,ltA,ltC,ltK]))
 have ej:=zQ qj om
 obtain⟨r,hr⟩:=eX (rs[j])
 have aA:=aq r (hr▸Aa qj)
 rw[A8 qj,hr,Bb]at aa
 have aF:=zG6 t r om om
 have a1:=xI2 ad
 have ae:=yW3 N1 A1 ab (yV t r).1 ⟨b.1,b.2⟩ om (fun y hy=>by have:=a1.2 y hy;omega)
 obtain⟨⟨g,ge⟩,hg⟩: ∃g,yV t r=g:=⟨_,rfl⟩
 have aJ:zM0 t b (uOf N1) r=zq9 g ⟨b.1,b.2⟩ (uOf N1):=by unfold zM0;rw[hg]
 rw[hg]at aF ae
 rw[aJ]at aa
 refine zA ?_
 unfold nSt
 simp[go_sem,qj,hr,yD]
 refine zJ aF cB (zN (by simp[go_sem,schR]) rfl) rfl ?_
 simp[go_sem,zP0]
 refine zM4 ae cB (zz8 ab) xi8 ⟨zg2 (n:=(nSt N1 A1).length) (by simp[ltS,ltA,ltC,ltK,zn4]),zC rfl,zC rfl,tV⟩ (fun r s h=>by
  obtain⟨rfl,N2,A2,rfl,h2,_⟩:=h
  exact⟨rfl,zz8 h2⟩) ?_
 rintro r' s ⟨rfl,N2,A2,rfl,ai,aj⟩ hle σ' pick af
 simp[go_sem,ej]
 refine zG (j+1,N2,A2) ⟨by simp only;omega,⟨by simp only;omega,ai,by simp only;rw[aj];exact aa,m+1,by simp only;rw[aj];exact ad.need _ _,by simp only;omega⟩, ?_⟩
 refine yG6 af ⟨.inl ?_,.inl ?_,zC rfl,zC rfl,zC rfl,zK,zC rfl,zC rfl,zK,zC rfl,.inl sg,tV⟩
 .have:=af.ren2 (M:=σ'.length) (i:=0) sm
  rw[zn4,yD]at this
  simp[go_sem,renS,renA,renC,renK]at this⊢
  exact this.symm
 .have:=af.ren1 (M:=σ'.length) (i:=0) (by rw[yD];omega)
  simp[go_sem,renS,renA,renC,renK,this]
def tab00:GTable:=⟨[],[],0,0,0,⟨[],[],[],0,0,0⟩⟩
def zV0:List GCol->List GExpr->Int
 |c::cs,e::es=>if zv1 tab00 e c.kind≠0 then zv1 tab00 e c.kind else zV0 cs es
 |_,_=>0
def zW9 (T:GTable) (r:List GExpr):Int:=if r.length≠T.cols.length then 9 else zV0 T.cols r
def yv2 (T:GTable):List (List GExpr)->Int
 | []=>0
 |r::l=>if zW9 T r≠0 then zW9 T r else yv2 T l
theorem xY8 {ρ:Nat->Nat} {g1 g2 g3 g4:Tag}:argS ρ (.agg tab00.row) (.agg [.str [],.sl g1 [],.int .i64 0,.int .i64 0,.int .i64 0,.sl g2 [],.sl g3 [],.sl g4 [],.int .i64 0,.int .i64 0,.int .i64 0]):=
 zm7 ⟨zT rfl,yJ,zT rfl,zT rfl,zT rfl,yJ,yJ,yJ,zT rfl,zT rfl,zT rfl,tV⟩
theorem zQ2 {ρ:Nat->Nat} (e:GExpr):argS ρ (.agg e.row) (.agg [.int .i64 e.kind,.str e.s,.int .i64 e.v.kind,.int .i64 e.v.n,.str e.v.s,.sl .ro (e.args.map GExpr.row)]):=by rw[GExpr.row_eq];exact zC rfl
theorem st_T (T:GTable) (st:GStmt) (n:Nat):([.box T.row,.box st.row]:St).all (ltOb n)=true:=by simp[ltOb,ltC,ltK,GTable.row,GStmt.row]
theorem xm8 (T:GTable) (_hT:T.cols.length<=1000) (st:GStmt) (hs:SOk st):Pure prog 142 [.agg T.row,.agg st.row] (.int .i64 (yv2 T st.rows)):=by
 obtain⟨R,hR⟩:=eX st.rows
 obtain⟨ai,ag⟩:=hs.rows
 rw[hR]at ai ag
 rw[hR]
 generalize hM:yv2 T R=M
 refine iV 0 func142 ntmps142 results142 fun c hc hb=> ?_
 refine zA ?_
 simp[go_sem,hR]
 refine zH (S:=Nat) [2,3,11,12,13] (fun i=> [.ptr 0 0,.ptr 1 0,.sl .ro (R.map fun r=> [V.sl .ro (r.map GExpr.row)]),.int .i64 R.length,.int .i64 (i:Int)]) (fun _=> [.box T.row,.box st.row]) (fun i=>R.length - i)
  (fun i=>i<=R.length/\yv2 T (R.drop i)=M) hc hb 0 ⟨A4 _,hM⟩ ?_ ?_
 .exact at_n 2 (by simp[go_sem,hR]) rfl (st_T T st 2) (A4 _) (zF sg rfl)
 rintro i ⟨hi,hinv⟩
 by_cases q:i<R.length
 rotate_left
 .rw[Ab om]at hinv
  refine zA ?_
  simp[go_sem,q]
  exact iret hinv
 have ei:=zQ q om
 obtain⟨r,hr⟩:=eX (R[i])
 obtain⟨ak,aj⟩:=ag r (hr▸Aa q)
 rw[A8 q,hr,yv2]at hinv
 by_cases q2:r.length=T.cols.length
 rotate_left
 .have ad:((r.length:Int) !=T.cols.length)=true:=by simp;omega
  have ae:zW9 T r=9:=by unfold zW9;rw[if_pos q2]
  rw[ae,if_pos dC]at hinv
  refine zA ?_
  simp[go_sem,q,hr,ad]
  exact iret hinv
 have ad:((r.length:Int) !=T.cols.length)=false:=by simp;omega
 have ae:zW9 T r=zV0 T.cols r:=by unfold zW9;rw[if_neg (fun h=>h q2)]
 rw[ae]at hinv
 obtain⟨C,hC⟩:=eX (zV0 T.cols r)
 rw[hC]at hinv
 refine zA ?_
 simp[go_sem,q,hr,ad]
 refine zH (S:=Nat) [2,3,11,12,13,23,24,25] (fun k=> [.ptr 0 0,.ptr 1 0,.sl .ro (R.map fun r=> [V.sl .ro (r.map GExpr.row)]),.int .i64 R.length,.int .i64 (i:Int),.sl .ro (r.map GExpr.row),.int .i64 r.length,.int .i64 (k:Int)]) (fun _=> [.box T.row,.box st.row]) (fun k=>r.length - k)
  (fun k=>k<=r.length/\zV0 (T.cols.drop k) (r.drop k)=C) hc hb 0 ⟨A4 _,hC⟩ ?_ ?_
 .exact at_n 2 (by simp[go_sem,hR]) rfl (st_T T st 2) (A4 _) (zF sg rfl)
 rintro k ⟨hk,aa⟩
 by_cases qk:k<r.length
 rotate_left
 .rw[Ab om,Ab om]at aa
  have aa:C=0:=aa.symm
  rw[if_neg (fun h=>h aa)]at hinv
  refine zA ?_
  simp[go_sem,qk,ei]
  exact zG (i+1) ⟨om,⟨om,hinv⟩,aN 2 (st_T T st 2)⟩
 have ek:=zQ qk om
 have qc:k<T.cols.length:=om
 obtain⟨e,he⟩:=eX (r[k])
 obtain⟨c1,ah⟩:=eX (T.cols[k])
 have hE:=aj e (he▸Aa qk)
 rw[A8 qk,A8 qc,he,ah,zV0]at aa
 have ab:=yc1 tab00 dC e hE c1.kind
 generalize zv1 tab00 e c1.kind=kc at ab aa
 refine zA ?_
 simp[go_sem,qk,he]
 refine wQ [(8,0)] 3 sm kR kR ?_
 simp[go_sem,qc,ah]
 refine zh8 ab cB (fun _=>⟨xY8,zQ2 e,zC rfl,tV⟩) rfl ?_
 simp[go_sem]
 by_cases qe:kc=0
 .have af:(kc !=0)=false:=by simpa using qe
  rw[if_neg (fun h=>h qe)]at aa
  simp[go_sem,af,ek]
  exact zG (k+1) ⟨om,⟨om,aa⟩,aN 2 (st_T T st 2)⟩
 .have af:(kc !=0)=true:=by simpa using qe
  rw[if_pos qe]at aa
  rw[if_pos (by rw[<-aa];exact qe)]at hinv
  simp[go_sem,af]
  exact iret (aa.trans hinv)
def zr3 (T:GTable):List GAssign->List GAssign->Int
 |_,[]=>0
 |p,x::l=>
  if colF T x.name<0 then 14
  else if colF T x.name=T.key∨(colF T x.name=0/\T.place=0)then 18
  else if(p.any fun y=>y.name==x.name)=true then 9
  else if zv1 T x.e (colK T (colF T x.name))≠0 then zv1 T x.e (colK T (colF T x.name))
  else zr3 T (p++ [x]) l
theorem st_x (x:GAssign):ltOb 0 (.box x.row)=true:=by simp[ltOb,ltC,ltK,GAssign.row]
theorem yY3 (x y:GAssign):VCalls prog 219 [.agg y.row,.ptr 0 0] [.box x.row] (fun r σ=>r= .bool (y.name==x.name)/\σ= [.box x.row]):=by
 refine iW 1 func219 ntmps219 results219 fun c hc hb=>zL ?_
 simp[go_sem]
 exact xA 1 rfl rfl (by simp[ltOb,ltC,ltK]) (A5 _) (zC rfl) ⟨rfl,rfl⟩
theorem wa6 (x:GAssign) (l:List GAssign) (hl:l.length<=12):VCalls prog 278 [.sl .ro (l.map GAssign.row),.fn 219 [.ptr 0 0]] [.box x.row] (fun r σ=>r= .int .i64 (zb6 (fun y=>y.name==x.name) l 0)/\σ= [.box x.row]):=by
 generalize hM:zb6 (fun y:GAssign=>y.name==x.name) l 0=M
 have ret: ∀(r:Int) (σ:St),r=M->wret (some (.int .i64 r)) 1 (fun r s=>r= .int .i64 M/\s= [.box x.row]) (.box x.row::σ):=fun r σ h=>by subst h;exact xA 1 rfl rfl (by simp[ltOb,ltC,ltK,GAssign.row]) (A5 _) (zC rfl) ⟨rfl,rfl⟩
 refine iV 1 func278 ntmps278 results278 fun c hc hb=> ?_
 refine zA ?_
 simp[go_sem]
 refine zH (S:=Nat) [0,1,6,7,8] (fun i=> [.sl .ro (l.map GAssign.row),.fn 219 [.ptr 0 0],.sl .ro (l.map GAssign.row),.int .i64 l.length,.int .i64 (i:Int)]) (fun _=> [.box x.row]) (fun i=>l.length - i)
  (fun i=>i<=l.length/\zb6 (fun y=>y.name==x.name) (l.drop i) i=M) hc hb 0 ⟨A4 _,hM⟩ ?_ ?_
 .exact aN 1 (by simp[ltOb,ltC,ltK,GAssign.row])
 rintro i ⟨hi,hinv⟩
 by_cases q:i<l.length
 rotate_left
 .rw[Ab om]at hinv
  refine zA ?_
  simp[go_sem,q]
  exact ret _ _ hinv
 have ei:=zQ q om
 obtain⟨y,hy⟩:=eX (l[i])
 rw[A8 q,hy,zb6]at hinv
 have aa:=yY3 x y
 generalize (y.name==x.name)=b at aa hinv
 refine zA ?_
 simp[go_sem,q,hy]
 refine zl9 0 aa cB rfl (st_x x) ⟨zC rfl,.inl rfl,tV⟩ (fun r σ h=>⟨_,h.2,st_x x⟩) ?_
 rintro r o2 ⟨rfl,h2⟩
 obtain rfl:o2= .box x.row:=by simpa using h2
 refine(A9 b).elim (fun p=> ?_) (fun p=> ?_)
 .rw[if_pos p]at hinv
  simp[go_sem,p]
  exact ret _ _ hinv
 .rw[if_neg (by rw[p];decide)]at hinv
  simp[go_sem,p,ei]
  exact zG (i+1) ⟨om,⟨om,hinv⟩,aN 1 (by simp[ltOb,ltC,ltK])⟩
theorem wa1 (x:GAssign) (l:List GAssign) (hl:l.length<=12):VCalls prog 218 [.sl .ro (l.map GAssign.row),.fn 219 [.ptr 0 0]] [.box x.row] (fun r σ=>r= .bool (l.any fun y=>y.name==x.name)/\σ= [.box x.row]):=by
 have h:=wa6 x l hl
 have hg:=zA8 (fun y:GAssign=>y.name==x.name) l 0
 rw[<-hg]
 generalize zb6 (fun y:GAssign=>y.name==x.name) l 0=n at h⊢
 refine iW 1 func218 ntmps218 results218 fun c hc hb=>zL ?_
 simp[go_sem]
 refine zl9 0 h cB rfl (st_x x) ⟨zC rfl,.inl (by simp[renS,renA,renC,renK,ren]),tV⟩ (fun r σ h=>⟨_,h.2,st_x x⟩) ?_
 rintro r o2 ⟨rfl,h2⟩
 obtain rfl:o2= .box x.row:=by simpa using h2
 simp[go_sem]
 exact xA 1 rfl rfl (by simp[ltOb,ltC,ltK]) (A5 _) (zC rfl) ⟨rfl,rfl⟩
theorem xS5 (T:GTable) (hT:T.cols.length<=1000) (st:GStmt) (hs:SOk st):Pure prog 143 [.agg T.row,.agg st.row] (.int .i64 (zr3 T [] st.sets)):=by
 obtain⟨L,hL⟩:=eX st.sets
 obtain⟨al,ak⟩:=hs.sets
 rw[hL]at al ak
 rw[hL]
 generalize hM:zr3 T [] L=M
 refine iV 0 func143 ntmps143 results143 fun c hc hb=> ?_
 refine zA ?_
 simp[go_sem,hL]
 refine zH (S:=Nat) [2,3,10,11,12] (fun i=> [.ptr 0 0,.ptr 1 0,.sl .ro (L.map GAssign.row),.int .i64 L.length,.int .i64 (i:Int)]) (fun _=> [.box T.row,.box st.row]) (fun i=>L.length - i)
  (fun i=>i<=L.length/\zr3 T (L.take i) (L.drop i)=M) hc hb 0 ⟨A4 _,hM⟩ ?_ ?_
 .exact at_n 2 (by simp[go_sem,hL]) rfl (st_T T st 2) (A4 _) (zF sg rfl)
 rintro i ⟨hi,hinv⟩
 by_cases q:i<L.length
 rotate_left
 .rw[Ab om,zr3]at hinv
  refine zA ?_
  simp[go_sem,q]
  exact iret hinv
 have ei:=zQ q om
 obtain⟨x,hx⟩:=eX (L[i])
 obtain⟨aq,hE⟩:=ak x (hx▸Aa q)
 have aa:=yp5 T x.name (by unfold maxLen;omega)
 rw[show za2 (fun c:GCol=>c.name==x.name) T.cols 0=colF T x.name from rfl]at aa
 have ag:=wa1 x (L.take i) (by simp;omega)
 have an:L.take (i+1)=L.take i++ [x]:=by rw[Du,A0 q,hx];rfl
 rw[A8 q,hx,zr3,<-an]at hinv
 generalize ((L.take i).any fun y=>y.name==x.name)=b at ag hinv
 by_cases qc:colF T x.name<0
 .have ae:decide (colF T x.name<0)=true:=decide_eq_true qc
  rw[if_pos qc]at hinv
  refine zA ?_
  simp[go_sem,q,hx]
  refine zJ aa cB (zN sg rfl) rfl ?_
  simp[go_sem,ae]
  exact iret hinv
 have ae:decide (colF T x.name<0)=false:=decide_eq_false qc
 rw[if_neg qc]at hinv
 obtain⟨j,hj,ai⟩:=zQ6 T x.name qc
 obtain⟨C,hC⟩:=eX (T.cols[j])
 have ao:colK T (colF T x.name)=C.kind:=by
  unfold colK
  rw[hj,Ay,A0 ai,hC];rfl
 rw[ao]at hinv
 have ab:=yc1 T (by unfold maxLen;omega) x.e hE C.kind
 generalize zv1 T x.e C.kind=kc at ab hinv
 rw[hj]at aa hinv ae
 by_cases qk:(j:Int)=T.key∨((j:Int)=0/\T.place=0)
 .rw[if_pos qk]at hinv
  refine zA ?_
  simp[go_sem,q,hx]
  refine zJ aa cB (zN sg rfl) rfl ?_
  simp[go_sem,ae]
  by_cases k1:(j:Int)=T.key
  .have af:((j:Int)==T.key)=true:=by simpa using k1
   simp[go_sem,af]
   exact iret hinv
  .have af:((j:Int)==T.key)=false:=by simpa using k1
   obtain⟨k2,k3⟩:=qk.resolve_left k1
   have ah:((j:Int)==0)=true:=by simpa using k2
   have aj:(T.place==0)=true:=by simpa using k3
   simp[go_sem,af,ah,aj]
   exact iret hinv
 rw[if_neg qk]at hinv
 have af:((j:Int)==T.key)=false:=by simpa using fun h=>qk (.inl h)
 have key:((j:Int)==0)=false∨(((j:Int)==0)=true/\(T.place==0)=false):=by
  by_cases k2:(j:Int)=0
  .exact .inr ⟨by simpa using k2,by simpa using fun h=>qk (.inr ⟨k2,h⟩)⟩
  .exact .inl (by simpa using k2)
 refine key.elim (fun ah=> ?_) (fun⟨ah,aj⟩=> ?_)
 .refine zA ?_
  simp[go_sem,q,hx]
  refine zJ aa cB (zN sg rfl) rfl ?_
  simp[go_sem,ae,af,ah,hL]
  refine zI ⟨hi,yc9 fun _=>rfl⟩ ?_
  simp[go_sem,<-List.map_take]
  refine zl9 2 ag cB rfl (st_x x) ⟨zK,.inl (by simp[renS,renA,renC,renK,ren]),tV⟩ (fun r σ h=>⟨_,h.2,st_x x⟩) ?_
  rintro r o2 ⟨rfl,h2⟩
  obtain rfl:o2= .box x.row:=by simpa using h2
  refine(A9 b).elim (fun p=> ?_) (fun p=> ?_)
  .rw[if_pos p]at hinv
   simp[go_sem,p]
   exact iret hinv
  rw[if_neg (by rw[p];decide)]at hinv
  simp[go_sem,p]
  refine wQ [(9,0)] 3 sm kR kR ?_
  simp[go_sem,ai,hC]
  refine zh8 ab cB (fun _=>⟨zC rfl,zQ2 x.e,zC rfl,tV⟩) rfl ?_
  simp[go_sem]
  by_cases qe:kc=0
  .have ad:(kc !=0)=false:=by simpa using qe
   rw[if_neg (fun h=>h qe)]at hinv
   simp[go_sem,ad,ei]
   exact zG (i+1) ⟨om,⟨om,hinv⟩,at_n 2 (by simp[go_sem,hL]) rfl (st_T T st 2) (A4 _) (zF sg rfl)⟩
  .have ad:(kc !=0)=true:=by simpa using qe
   rw[if_pos qe]at hinv
   simp[go_sem,ad]
   exact iret hinv
 .refine zA ?_
  simp[go_sem,q,hx]
  refine zJ aa cB (zN sg rfl) rfl ?_
  simp[go_sem,ae,af,ah,aj,hL]
  refine zI ⟨hi,yc9 fun _=>rfl⟩ ?_
  simp[go_sem,<-List.map_take]
  refine zl9 2 ag cB rfl (st_x x) ⟨zK,.inl (by simp[renS,renA,renC,renK,ren]),tV⟩ (fun r σ h=>⟨_,h.2,st_x x⟩) ?_
  rintro r o2 ⟨rfl,h2⟩
  obtain rfl:o2= .box x.row:=by simpa using h2
  refine(A9 b).elim (fun p=> ?_) (fun p=> ?_)
  .rw[if_pos p]at hinv
   simp[go_sem,p]
   exact iret hinv
  rw[if_neg (by rw[p];decide)]at hinv
  simp[go_sem,p]
  refine wQ [(9,0)] 3 sm kR kR ?_
  simp[go_sem,ai,hC]
  refine zh8 ab cB (fun _=>⟨zC rfl,zQ2 x.e,zC rfl,tV⟩) rfl ?_
  simp[go_sem]
  by_cases qe:kc=0
  .have ad:(kc !=0)=false:=by simpa using qe
   rw[if_neg (fun h=>h qe)]at hinv
   simp[go_sem,ad,ei]
   exact zG (i+1) ⟨om,⟨om,hinv⟩,at_n 2 (by simp[go_sem,hL]) rfl (st_T T st 2) (A4 _) (zF sg rfl)⟩
  .have ad:(kc !=0)=true:=by simpa using qe
   rw[if_pos qe]at hinv
   simp[go_sem,ad]
   exact iret hinv
def zo6 (st:GStmt):Int:=
 match tabsS[(yG st.table).toNat]? with
 |none=>14
 |some T=>if yG st.table<0 then 14 else if st.kind=1 then yb5 T st else if st.kind=2 then yv2 T st.rows else if st.kind=3 then(if zr3 T [] st.sets≠0 then zr3 T [] st.sets else zK1 T st)else zK1 T st
theorem xv4 (st:GStmt) (hs:SOk st):Pure prog 85 [schR tabsS,.agg st.row] (.int .i64 (zo6 st)):=by
 have ad:=yT0 tabsS st.table dC
 rw[show za2 (fun t:GTable=>t.name==st.table) tabsS 0=yG st.table from rfl]at ad
 generalize hM:zo6 st=M
 unfold zo6 at hM
 have al:=zr5 st.table
 generalize yG st.table=t at ad al hM
 refine iW 0 func85 ntmps85 results85 fun c hc hb=>zL ?_
 simp[go_sem,schR]
 refine zJ ad cB (zN (by simp[go_sem,schR]) rfl) rfl ?_
 simp[go_sem]
 by_cases ah:t= -1
 .have hM:14=M:=by rw[<-hM,ah];rfl
  subst ah
  simp[go_sem]
  exact iret hM
 have ai: ¬t<0:=om
 have aj:decide (t<0)=false:=decide_eq_false ai
 obtain⟨j,rfl⟩: ∃j:Nat,t=j:=⟨t.toNat,om⟩
 have ae:j<tabsS.length:=by show j<3;omega
 obtain⟨T,hT⟩:=eX (tabsS[j])
 have ak:T.cols.length<=1000:=by
  rw[<-hT]
  match j,ae with
  |0,_=>exact(by decide:tabT.cols.length<=1000)
  |1,_=>exact(by decide:tabG.cols.length<=1000)
  |2,_=>exact(by decide:tabH.cols.length<=1000)
 simp only[Ay,A0 ae,hT]at hM
 rw[if_neg ai]at hM
 have h1:=xv7 T (by unfold maxLen;omega) st hs
 have h2:=xm8 T ak st hs
 have h3:=xS5 T ak st hs
 have h4:=yS5 T (by unfold maxLen;omega) st hs
 simp[go_sem,aj,ae,hT]
 by_cases k1:st.kind=1
 .have aa:(st.kind==1)=true:=by simpa using k1
  rw[if_pos k1]at hM
  simp[go_sem,aa]
  refine zJ h1 cB (zN sg rfl) rfl ?_
  simp[go_sem]
  exact iret hM
 have aa:(st.kind==1)=false:=by simpa using k1
 rw[if_neg k1]at hM
 by_cases k2:st.kind=2
 .have ab:(st.kind==2)=true:=by simpa using k2
  rw[if_pos k2]at hM
  simp[go_sem,aa,ab]
  refine zJ h2 cB (zN sg rfl) rfl ?_
  simp[go_sem]
  exact iret hM
 have ab:(st.kind==2)=false:=by simpa using k2
 rw[if_neg k2]at hM
 by_cases k3:st.kind=3
 .have af:(st.kind==3)=true:=by simpa using k3
  rw[if_pos k3]at hM
  generalize zr3 T [] st.sets=sc at h3 hM
  simp[go_sem,aa,ab,af]
  refine zJ h3 cB (zN sg rfl) rfl ?_
  by_cases qe:sc=0
  .have ag:(sc !=0)=false:=by simpa using qe
   rw[if_neg (fun h=>h qe)]at hM
   simp[go_sem,ag]
   refine zJ h4 cB (zN sg rfl) rfl ?_
   simp[go_sem]
   exact iret hM
  .have ag:(sc !=0)=true:=by simpa using qe
   rw[if_pos qe]at hM
   simp[go_sem,ag]
   exact iret hM
 have af:(st.kind==3)=false:=by simpa using k3
 rw[if_neg k3]at hM
 simp[go_sem,aa,ab,af]
 refine zJ h4 cB (zN sg rfl) rfl ?_
 simp[go_sem]
 exact iret hM
def zO2 (mode:Int):List GStmt->Nat->Int×Int
 | [],_=>(0,0)
 |x::l,i=>if mode≠0/\x.kind≠1 then((i:Int),1)else if zo6 x≠0 then((i:Int),zo6 x)else zO2 mode l (i+1)
def zn5 (l:GLot):Int×Int:=if mayL l=true then zO2 l.mode l.stmts 0 else(0,9)
theorem yO5 (l:GLot) (hl:LOk l):Pure prog 40 [schR tabsS,.agg l.row] (wC (zn5 l)):=by
 have ad:=xr9 l hl
 obtain⟨L,hL⟩:=eX l.stmts
 obtain⟨ag,af⟩:=hl.stmts
 rw[hL]at ag af
 obtain⟨m,hm⟩:=eX l.mode
 generalize hM:zn5 l=M
 unfold zn5 at hM
 rw[hL,hm]at hM
 generalize mayL l=b at ad hM
 refine iV 0 func40 ntmps40 results40 fun c hc hb=> ?_
 refine zA ?_
 simp[go_sem,schR]
 refine zJ ad cB (zN sg rfl) rfl ?_
 refine(A9 b).elim (fun p=> ?_) (fun p=> ?_)
 rotate_left
 .rw[if_neg (by rw[p];decide)]at hM
  simp[go_sem,p]
  exact zv2 hM
 rw[if_pos p]at hM
 simp[go_sem,p,hL]
 refine zH (S:=Nat) [2,3,13,14,15] (fun i=> [.ptr 0 0,.ptr 1 0,.sl .ro (L.map GStmt.row),.int .i64 L.length,.int .i64 (i:Int)]) (fun _=> [.box [.sl .ro xG,.sl .ro (tabsS.map GTable.row)],.box l.row]) (fun i=>L.length - i)
  (fun i=>i<=L.length/\zO2 m (L.drop i) i=M) hc hb 0 ⟨A4 _,hM⟩ ?_ ?_
 .exact at_n 2 (by simp[go_sem,hL]) rfl (by simp[ltOb,ltC,ltK,GLot.row]) (A4 _) (zF sg rfl)
 rintro i ⟨hi,hinv⟩
 by_cases q:i<L.length
 rotate_left
 .rw[Ab om,zO2]at hinv
  refine zA ?_
  simp[go_sem,q]
  exact zv2 hinv
 have ei:=zQ q om
 obtain⟨st,ae⟩:=eX (L[i])
 have aa:=xv4 st (af st (ae▸Aa q))
 rw[A8 q,ae,zO2]at hinv
 generalize zo6 st=ce at aa hinv
 refine zA ?_
 simp[go_sem,q,ae,hm]
 by_cases q1:m≠0/\st.kind≠1
 .rw[if_pos q1]at hinv
  have ah:(m !=0)=true:=by simpa using q1.1
  have ai:(st.kind !=1)=true:=by simpa using q1.2
  simp[go_sem,ah,ai]
  exact zv2 hinv
 rw[if_neg q1]at hinv
 have key:(m !=0)=false∨((m !=0)=true/\(st.kind !=1)=false):=by
  by_cases h:m=0
  .exact .inl (by simpa using h)
  .refine .inr ⟨by simpa using h, ?_⟩
   simp only[bne_eq_false_iff_eq]
   exact Eg fun g=>q1 ⟨h,g⟩
 refine key.elim (fun a1=> ?_) (fun⟨a1,a2⟩=> ?_)
 .simp[go_sem,a1]
  refine zJ aa cB (zN (by simp[go_sem,schR]) rfl) rfl ?_
  by_cases qe:ce=0
  .have ab:(ce !=0)=false:=by simpa using qe
   rw[if_neg (fun h=>h qe)]at hinv
   simp[go_sem,ab,ei]
   exact zG (i+1) ⟨om,⟨om,hinv⟩,at_n 2 (by simp[go_sem,hL,hm]) rfl (by simp[ltOb,ltC,ltK]) (A4 _) (zF sg rfl)⟩
  .have ab:(ce !=0)=true:=by simpa using qe
   rw[if_pos qe]at hinv
   simp[go_sem,ab]
   exact zv2 hinv
 .simp[go_sem,a1,a2]
  refine zJ aa cB (zN (by simp[go_sem,schR]) rfl) rfl ?_
  by_cases qe:ce=0
  .have ab:(ce !=0)=false:=by simpa using qe
   rw[if_neg (fun h=>h qe)]at hinv
   simp[go_sem,ab,ei]
   exact zG (i+1) ⟨om,⟨om,hinv⟩,at_n 2 (by simp[go_sem,hL,hm]) rfl (by simp[ltOb,ltC,ltK]) (A4 _) (zF sg rfl)⟩
  .have ab:(ce !=0)=true:=by simpa using qe
   rw[if_pos qe]at hinv
   simp[go_sem,ab]
   exact zv2 hinv
end Go.Proofs.YtefbicjgbaaieaaGreat
