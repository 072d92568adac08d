/-
  slices.Insert over a list of structs: the contract over trees.
  Conditions: as each theorem states them.
-/
import Derived.Test.YtajjjghohakniaaGreatSAO
import Derived.Test.YtajjjghohakniaaGreatSAP
import Derived.Lib.Overlaps
import Derived.Lib.AppendZerosOnto
import Derived.Laws.Externs
import Derived.Laws.IdiomCopy
import Derived.Deep.RegionLaw
namespace Go.Proofs.YtajjjghohakniaaGreat
open Go Go.Vx
set_option maxRecDepth 100000
theorem run_copy_in {P:Program} {w:World} {dT sT ty el:TypeId} {b o dLen dCap sLen sCap s k:Nat} {a:Addr} {arr:Array Value} {T:TypeId} {fz:Nat×Nat} {cs:List Value} (hu:P.underlying dT=some (.slice el)) (hs:(P.info? el).map (·.size)=some s)
  (hk:Nat.min sLen dLen=k) (hn:cs.length=k*s) (hsrc: ∀j v,cs[j]? =some v→w.cell? (a.add j)=some v) (hh:w.heap[b]? =some (.cells arr T fz)) (hf:unfrozen arr fz) (hfit:o+cs.length≤arr.size) (h1: ∀v∈cs,v.oneCell'=true):
  (Builtin.copy_ #[dT,sT] ty #[.slice (some ⟨b,o,none⟩) dLen dCap,.slice (some a) sLen sCap]).run P w= .ok (goInt k) (setBlk w b (.cells (splice arr o cs) T fz)):=by
 have hl:=run_loadCells_list (P:=P) w a cs hsrc
 have hst:=run_storeCells_blk P b o T fz cs 0 arr w hh hf (by omega) h1
 rw[Nat.add_zero]at hst
 cases hq:P.info? el with
 |none=>simp[hq]at hs
 |some i=>
  have hi:i.size=s:=by simpa[hq]using hs
  simp[Builtin.copy_,run_underlying hu,Builtin.lenOf,Builtin.firstCells,sizeOf,typeInfo,hq,hi,hk,←hn,hl,hst]
theorem wp_copy_runI {P:Program} (w:World) {o:Oper} {a:Act} {K:Act→World→Prop} {Q:Exit→Act→World→Prop} (d s:Operand) (t t':TypeId)
  (ho:o.op= .call {callee:= .builtin .copy,args:= #[d,s],argTypes:= #[t,t']}) (v u:Value) (hd:a.eval d=v) (hs:a.eval s=u) {v':Value} {w':World}
  (hr:(Builtin.copy_ #[t,t'] o.type #[v,u]).run P w= .ok v' w') (h:K (a.put o.dst v') w'):o.wp P a w K Q:=by
 unfold Oper.wp execOp
 simp only[ho,resolve,invoke,builtin,Sem.run_bind,Sem.run_pure,Result.andThen_ok,List.map_toArray,List.map_cons,List.map_nil,hd,hs,hr]
 exact h
theorem wpList_copy_runI {P:Program} (w:World) {ops:Array Oper} {rest:List Oper} {o:Oper} {a:Act} {Q:Exit→Act→World→Prop} (hgd:o.guard=none) (d s:Operand) (t t':TypeId)
  (ho:o.op= .call {callee:= .builtin .copy,args:= #[d,s],argTypes:= #[t,t']}) (v u:Value) (hd:a.eval d=v) (hs:a.eval s=u) {v':Value} {w':World}
  (hr:(Builtin.copy_ #[t,t'] o.type #[v,u]).run P w= .ok v' w') (h:wpList P ops Q rest (a.put o.dst v') w'):wpList P ops Q (o::rest) a w:=
 wpList_plain hgd fun _ hK=>wp_copy_runI w d s t t' ho v u hd hs hr (hK _ _ h)
theorem step_copy_runI {P:Program} {ops:Array Oper} {o:Oper} {a:Act} {w:World} {K:Act→World→Prop} {Q:Exit→Act→World→Prop} {E:Prop}
  (hg:o.guard=none) (d x:Operand) (dT sT:TypeId) (hop:o.op=Op.call {callee:=Callee.builtin Builtin.copy,args:= #[d,x],argTypes:= #[dT,sT]})
  (v u:Value) (hd:a.eval d=v) (hx:a.eval x=u) {v':Value} {w':World} (hr:(Builtin.copy_ #[dT,sT] o.type #[v,u]).run P w= .ok v' w') (hK:K (a.put o.dst v') w'):
  if Region.wanted o (yielded ops a.tmps)=true then Oper.wp P o a w K Q else E:=by
 have hw:Region.wanted o (yielded ops a.tmps)=true:=by simp[Region.wanted,hg]
 rw[if_pos hw]
 unfold Oper.wp
 simp[execOp,hop,resolve,invoke,builtin,hd,hx,hr,Result.andThen]
 exact hK
set_option maxHeartbeats 4000000 in
theorem ins_shift (b vb c vc n i:Nat) (arr arrv:Array Value) (T Tv:TypeId) (fz fzv:Nat×Nat) (D news:List Value) (w:World) (hi:i<n) (hroom:n+1≤c) (hn63:n≤9223372036854775806) (hvb:vb≠b)
  (hh:w.heap[b]? =some (.cells arr T fz)) (hf:unfrozen arr fz) (hsz:c*2≤arr.size) (hv:w.heap[vb]? =some (.cells arrv Tv fzv)) (hvf:unfrozenL 2 arrv fzv) (hvsz:2≤arrv.size)
  (hD:D=(arr.toList.drop (i*2)).take ((n - i)*2)) (hn:news=arrv.toList.take 2) (h1D: ∀v∈D,v.oneCell'=true) (h1n: ∀v∈news,v.oneCell'=true):
  Calls Tryz.prog 88 #[.slice (some ⟨b,0,none⟩) n c,.int .i64 i,.slice (some ⟨vb,0,none⟩) 1 vc] w fun e w'=>
   e= .returned (.slice (some ⟨b,0,none⟩) (n+1) c)∧w'=setBlk (setBlk w.drew b (.cells (splice arr ((i+1)*2) D) T fz)) b (.cells (splice (splice arr ((i+1)*2) D) (i*2) news) T fz):=by
 have hin:i≤n:=by omega
 have hz2: ¬((i:Int)=(n:Int)):=by omega
 have hb1:(0:Int)≤(i:Int)+1:=by omega
 have htn:((i:Int)+1).toNat=i+1:=by omega
 have hb2: ¬(c=i+1):=by omega
 have hb3:(i:Int)≤(n:Int)+1:=by omega
 have hb5:(i:Int)+1≤(n:Int)+1:=by omega
 have hb4: ¬(c=i):=by omega
 have hw1:IntKind.i64.wrap ((i:Int)+1)=(i:Int)+1:=by rw[IntKind.wrap_i64];omega
 have hD0:D.length=(n - i)*2:=by rw[hD];simp;omega
 have hn0:news.length=2:=by rw[hn];simp;omega
 have hfv:w.frozen? ⟨vb,0,none⟩=false:=by
  have:=hvf.1 0 (by omega)
  simp[World.frozen?,hv];omega
 have hfe:w.frozen? ⟨vb,arrv.size,none⟩=false:=by
  have:=hvf.2.resolve_left (by decide)
  simp[World.frozen?,hv];omega
 have hov: ∀lb cb,(callFunc 138 #[.slice (some ⟨vb,0,none⟩) 1 vc,.slice (some ⟨b,(i+1)*2,none⟩) lb cb]).run Tryz.prog w= .ok (.value (.bool false)) w:=fun lb cb=>by
  rw[run_callFunc_extern Tryz.func138 (by kernel_rfl) (by kernel_rfl) (by kernel_rfl) (e:=Extern.SlicesOverlaps.overlaps #[40,40] #[4]) (by kernel_rfl),
   Lib.run_overlaps_apart w 40 4 65 Tryz.underlying40 2 Tryz.sizeOf65 ⟨vb,0,none⟩ ⟨b,(i+1)*2,none⟩ 1 vc lb cb hvb Tv T arrv.size arr.size (by simp[World.shape?,hv]) (by simp[World.shape?,hh]) (by omega) hfv hfe]
  rfl
 have hinfo:(Tryz.prog.info? 65).map (·.size)=some 2:=by kernel_rfl
 have hDget: ∀(j:Nat) v,D[j]? =some v→j<(n - i)*2∧arr[i*2+j]? =some v:=fun j v e=>by
  have hj:j<(n - i)*2:=by rw[←hD0];exact(List.getElem?_eq_some_iff.1 e).1
  rw[hD,List.getElem?_take,if_pos hj,List.getElem?_drop,Array.getElem?_toList]at e
  exact⟨hj,e⟩
 have hcp1: ∀ty dc sc,(Builtin.copy_ #[40,40] ty #[.slice (some ⟨b,(i+1)*2,none⟩) (n - i) dc,.slice (some ⟨b,i*2,none⟩) (n+1 - i) sc]).run Tryz.prog w.drew= .ok (goInt (n - i:Nat)) (setBlk w.drew b (.cells (splice arr ((i+1)*2) D) T fz)):=fun ty dc sc=>
  run_copy_in Tryz.underlying40 hinfo (by simp only[Nat.min_def];split<;>omega) hD0 (fun j v e=>by
   obtain⟨_,e2⟩:=hDget j v e
   rw[Addr.add_lit];show w.cell? _=_;simpa[World.cell?,hh]using e2) hh hf (by rw[hD0];omega) h1D
 have hh2:(setBlk w.drew b (.cells (splice arr ((i+1)*2) D) T fz)).heap[b]? =some (.cells (splice arr ((i+1)*2) D) T fz):=setBlk_heap _ _ _ (Array.getElem?_eq_some_iff.1 hh).1
 have hcp2: ∀(W:World),W.heap=(setBlk w.drew b (.cells (splice arr ((i+1)*2) D) T fz)).heap→ ∀ty dc,(Builtin.copy_ #[40,40] ty #[.slice (some ⟨b,i*2,none⟩) (n+1 - i) dc,.slice (some ⟨vb,0,none⟩) 1 vc]).run Tryz.prog W= .ok (goInt (1:Nat)) (setBlk W b (.cells (splice (splice arr ((i+1)*2) D) (i*2) news) T fz)):=fun W hW ty dc=>
  run_copy_in Tryz.underlying40 hinfo (by simp only[Nat.min_def];split<;>omega) (by rw[hn0]) (fun j v e=>by
   have hj:j<2:=by rw[←hn0];exact(List.getElem?_eq_some_iff.1 e).1
   rw[hn,List.getElem?_take,if_pos hj,Array.getElem?_toList]at e
   have e3:W.heap[vb]? =some (.cells arrv Tv fzv):=by rw[hW,setBlk_other _ _ _ _ hvb];exact hv
   rw[Addr.add_lit];simpa[World.cell?,e3]using e) (by rw[hW];exact hh2) (fun o ho=>hf o (by rw[splice_size]at ho;exact ho)) (by rw[splice_size,hn0];omega) h1n
 go_enter Tryz.func88,Tryz.ntmps88
 go_wp2_with (simp only[hov])
 go_region_law (refine step_copy_runI rfl _ _ 40 40 rfl _ _ (by simp[Act.eval,Act.put]) (by simp[Act.eval,Act.put]) (hcp1 _ _ _) ?_)
 go_wp2_with (at_builtin;refine wpList_copy_runI _ rfl _ _ 40 40 rfl _ _ rfl rfl (hcp2 _ rfl _ _) ?_)
 go_ret
 subst hD hn
 exact⟨rfl,rfl⟩
set_option maxHeartbeats 4000000 in
theorem ins_end_room (b c n:Nat) (arr:Array Value) (T:TypeId) (fz:Nat×Nat) (x:Value) (news:List Value) (w:World) (hroom:n+1≤c) (hn63:n≤9223372036854775806)
  (hh:w.heap[b]? =some (.cells arr T fz)) (hf:unfrozen arr fz) (hsz:c*2≤arr.size) (va:Option Addr) (vc:Nat) (hx:x= .slice va 1 vc) (hsrc:Src Tryz.prog 2 40 x 1 news w):
  Calls Tryz.prog 88 #[.slice (some ⟨b,0,none⟩) n c,.int .i64 n,x] w fun e w'=>
   e= .returned (.slice (some ⟨b,0,none⟩) (n+1) c)∧w'=setBlk w b (.cells (splice arr (n*2) news) T fz):=by
 subst hx
 have hinfo:(Tryz.prog.info? 65).map (·.size)=some 2:=by kernel_rfl
 obtain⟨i0,hi0,hi1⟩: ∃i0,Tryz.prog.info? 65=some i0∧i0.size=2:=by
  cases h:Tryz.prog.info? 65 with
  |none=>simp[h]at hinfo
  |some i0=>exact⟨i0,rfl,by simpa[h]using hinfo⟩
 have hnl:=hsrc.newsLen
 have hr: ∀ty,(Builtin.append_ #[40,40] ty #[.slice (some ⟨b,0,none⟩) n c,.slice va 1 vc]).run Tryz.prog w= .ok (.slice (some ⟨b,0,none⟩) (n+1) c) (setBlk w b (.cells (splice arr (n*2) news) T fz)):=fun ty=>by
  have h:=run_append_in (P:=Tryz.prog) (ty:=ty) (i:=i0) (o:=0) (n:=n) (cap:=c) (m:=1) Tryz.underlying40 hi0 (by rw[hi1];exact hsrc) hroom hh hf (by rw[hi1];omega)
  rw[hi1,Nat.zero_add]at h
  exact h
 go_enter Tryz.func88,Tryz.ntmps88
 go_wp2_with (at_builtin;refine Lib.wpList_append_run _ rfl _ _ _ _ rfl _ _ rfl rfl _ _ (hr _) ?_)
 go_ret
 exact⟨rfl,rfl⟩
set_option maxHeartbeats 4000000 in
theorem ins_end_grow (base:Option Addr) (c n:Nat) (x:Value) (olds news:List Value) (w:World) (hroom:c<n+1) (hc63:n≤c) (hbig:(n+1)*32≤140737488355328)
  (hold:(Builtin.firstCells 2 n (.slice base n c)).run Tryz.prog w.drew= .ok olds.toArray w.drew) (hlo:olds.length=n*2) (va:Option Addr) (vc:Nat) (hx:x= .slice va 1 vc) (hsrc:Src Tryz.prog 2 40 x 1 news w):
  ∃(cap':Nat) (arr:Array Value),n+1≤cap'∧cap'*2≤arr.size∧arr.toList.take ((n+1)*2)=olds++news∧
  Calls Tryz.prog 88 #[.slice base n c,.int .i64 n,x] w fun e w'=>
   e= .returned (.slice (some ⟨w.heap.size,0,none⟩) (n+1) cap')∧w'=w.drew.alloc (.cells arr 65):=by
 subst hx
 have hinfo:(Tryz.prog.info? 65).map (fun i=>(i.zero.map (·.cells.size),i.size,i.bytes))=some (some 2,2,32):=by kernel_rfl
 obtain⟨i0,z,hi0,hz,hzs,hi1,hi2⟩: ∃i0 z,Tryz.prog.info? 65=some i0∧i0.zero=some z∧z.cells.size=2∧i0.size=2∧i0.bytes=32:=by
  cases h:Tryz.prog.info? 65 with
  |none=>simp[h]at hinfo
  |some i0=>
   simp only[h,Option.map_some,Option.some.injEq,Prod.mk.injEq,Option.map_eq_some_iff]at hinfo
   obtain⟨⟨z,hz,hzs⟩,h1,h2⟩:=hinfo
   exact⟨i0,z,rfl,hz,hzs,h1,h2⟩
 obtain⟨cap',arr,hge,hsz,htk,hr⟩:=run_grow (P:=Tryz.prog) (w:=w) (t:=40) (tx:=40) (ty:=40) (base:=base) (cap:=c) (n:=n) (k:=1) (y:= .slice va 1 vc) (olds:=olds) (news:=news) Tryz.underlying40 hi0 hz (by rw[hi1];exact hzs) (by rw[hi2];decide) (by rw[hi1];exact hold) (by rw[hi1];exact hlo) (by rw[hi1];exact hsrc) hroom (by rw[hi2];exact hbig)
 rw[hi1]at hsz htk
 refine⟨cap',arr,hge,hsz,htk, ?_⟩
 go_enter Tryz.func88,Tryz.ntmps88
 cases base with
 |none=>
  go_wp2_with (at_builtin;refine Lib.wpList_append_run _ rfl _ _ _ _ rfl _ _ rfl rfl _ _ hr ?_)
  go_ret
  exact⟨rfl,rfl⟩
 |some a=>
  go_wp2_with (at_builtin;refine Lib.wpList_append_run _ rfl _ _ _ _ rfl _ _ rfl rfl _ _ hr ?_)
  go_ret
  exact⟨rfl,rfl⟩
theorem setBlk_new (w:World) (o o':Go.Obj):setBlk (w.alloc o) w.heap.size o'=w.alloc o':=by
 show{w with heap:=(w.heap.push o).setIfInBounds w.heap.size o'}={w with heap:=w.heap.push o'}
 congr 1
 apply Array.ext_getElem?
 intro i
 rw[Array.getElem?_setIfInBounds,Array.getElem?_push,Array.getElem?_push]
 by_cases h:w.heap.size=i
 ·subst h;simp
 ·rw[if_neg h,if_neg (by omega),if_neg (by omega)]
set_option maxHeartbeats 4000000 in
theorem ins_grow (b vb c vc n i:Nat) (arr arrv:Array Value) (T Tv:TypeId) (fz fzv:Nat×Nat) (news:List Value) (w:World) (hi:i<n) (hroom:c<n+1) (hnc:n≤c) (hbig:(n+1)*32≤140737488355328) (hvb:vb≠b)
  (hh:w.heap[b]? =some (.cells arr T fz)) (hsz:c*2≤arr.size) (hv:w.heap[vb]? =some (.cells arrv Tv fzv)) (hvsz:2≤arrv.size)
  (hn:news=arrv.toList.take 2) (h1D: ∀v∈arr.toList.take (n*2),v.oneCell'=true) (h1n: ∀v∈news,v.oneCell'=true):
  ∃(cap':Nat) (arr':Array Value),n+1≤cap'∧cap'*2≤arr'.size∧arr'.toList.take ((n+1)*2)=arr.toList.take (i*2)++news++(arr.toList.take (n*2)).drop (i*2)∧
  Calls Tryz.prog 88 #[.slice (some ⟨b,0,none⟩) n c,.int .i64 i,.slice (some ⟨vb,0,none⟩) 1 vc] w fun e w'=>
   e= .returned (.slice (some ⟨w.heap.size,0,none⟩) (n+1) cap')∧w'=w.drew.drew.alloc (.cells arr' 65):=by
 have hinfo:(Tryz.prog.info? 65).map (fun i=>(i.zero.map (·.cells.size),i.size,i.bytes))=some (some 2,2,32):=by kernel_rfl
 have hinfo2:(Tryz.prog.info? 65).map (·.size)=some 2:=by kernel_rfl
 obtain⟨i0,z,hi0,hz,hzs,hi1,hi2⟩: ∃i0 z,Tryz.prog.info? 65=some i0∧i0.zero=some z∧z.cells.size=2∧i0.size=2∧i0.bytes=32:=by
  cases h:Tryz.prog.info? 65 with
  |none=>simp[h]at hinfo
  |some i0=>
   simp only[h,Option.map_some,Option.some.injEq,Prod.mk.injEq,Option.map_eq_some_iff]at hinfo
   obtain⟨⟨z,hz,hzs⟩,h1,h2⟩:=hinfo
   exact⟨i0,z,rfl,hz,hzs,h1,h2⟩
 have hn0:news.length=2:=by rw[hn];simp;omega
 have hi63:n≤4398046511103:=by omega
 have hz2: ¬((i:Int)=(n:Int)):=by omega
 have hz3:(c:Int)<(n:Int)+1:=by omega
 have hin:i≤n:=by omega
 have hw1:IntKind.i64.wrap ((i:Int)+1)=(i:Int)+1:=by rw[IntKind.wrap_i64];omega
 have hb1:(0:Int)≤(i:Int)+1:=by omega
 have htn:((i:Int)+1).toNat=i+1:=by omega
 have hb3:(i:Int)≤(n:Int):=by omega
 have hb5:(i:Int)≤(n:Int)+1:=by omega
 have hb6:(i:Int)+1≤(n:Int)+1:=by omega
 have hci: ¬(c=i):=by omega
 have hbw:b<w.heap.size:=(Array.getElem?_eq_some_iff.1 hh).1
 have hvw:vb<w.heap.size:=(Array.getElem?_eq_some_iff.1 hv).1
 have hkk:(n:Int)+1 - (i:Int)=((n+1 - i:Nat):Int):=by omega
 have hik:i+(n+1 - i)=n+1:=by omega
 obtain⟨D,hD⟩: ∃D,D=(arr.toList.take (n*2)).drop (i*2):=⟨_,rfl⟩
 have hD0:D.length=(n - i)*2:=by rw[hD];simp;omega
 have hold:(Builtin.firstCells i0.size i (.slice (some ⟨b,0,none⟩) i c)).run Tryz.prog w.drew= .ok (arr.toList.take (i*2)).toArray w.drew:=by
  rw[hi1]
  refine run_firstCells_some w.drew 2 i ⟨b,0,none⟩ i c (arr.toList.take (i*2)) (by simp;omega) (fun j v hj=> ?_)
  rw[Addr.add_lit]
  show w.cell? _=_
  have hj2:j<i*2:=by have:=(List.getElem?_eq_some_iff.1 hj).1;simp at this;omega
  rw[List.getElem?_take,if_pos hj2,Array.getElem?_toList]at hj
  simpa[World.cell?,hh]using hj
 have hcap:grownCap w (n+1) c 65=grownCap w (i+(n+1 - i)) c 65:=by rw[hik]
 have hGn:n+1≤grownCap w (n+1) c 65:=grownCap_ge w _ _ _
 have hrz: ∀ty,∃ROW:Array Value,grownCap w (n+1) c 65*2≤ROW.size∧ROW.toList.take (i*2)=arr.toList.take (i*2)∧(Builtin.append_ #[40,3] ty #[.slice (some ⟨b,0,none⟩) i c,.int .i64 ((n:Int)+1 - (i:Int))]).run Tryz.prog w=
   .ok (.slice (some ⟨w.heap.size,0,none⟩) (n+1) (grownCap w (n+1) c 65)) (w.drew.alloc (.cells ROW 65)):=fun ty=>by
  have h:=Lib.run_append_grow_zeros w 40 3 ty 65 i0 _ .i64 .i64 Tryz.underlying40 Tryz.underlying3 hi0 hz (some ⟨b,0,none⟩) i c (arr.toList.take (i*2)) hold (n+1 - i) (by omega) (by rw[hi1];decide) (by omega) (by omega) (by rw[hi2];omega) (by rw[hi2,hik];exact growslice_fits hroom hbig)
  rw[hik]at h
  rw[hkk]
  refine⟨_, ?_, ?_,h⟩
  ·simp only[Array.size_append,List.size_toArray,size_zeroCells,hzs,List.length_take,Array.length_toList]
   omega
  ·rw[Array.append_assoc,Array.toList_append,List.take_append_of_le_length (by simp;omega)]
   simp[List.take_take]
 have hGn':=hGn
 obtain⟨G,hG⟩: ∃G,G=grownCap w (n+1) c 65:=⟨_,rfl⟩
 have hG63:G≤9223372036854775807:=by
  have:=grownCap_le_maxLen w (n+1) c 65 (by unfold maxLen;omega)
  rw[←hG]at this
  unfold maxLen at this
  omega
 rw[←hG]at hrz hGn
 obtain⟨ROW,hR1,hR2,hrz⟩:=hrz 40
 obtain⟨W1,hW1⟩: ∃W1,W1=w.drew.alloc (.cells ROW 65):=⟨_,rfl⟩
 have hN1:W1.heap[w.heap.size]? =some (.cells ROW 65):=by rw[hW1];exact heap_alloc_same w.drew _
 have hN2:W1.heap[b]? =some (.cells arr T fz):=by rw[hW1];exact(heap_alloc_lt w.drew _ hbw).trans hh
 have hN3:W1.heap[vb]? =some (.cells arrv Tv fzv):=by rw[hW1];exact(heap_alloc_lt w.drew _ hvw).trans hv
 have hf0: ∀A:Array Value,unfrozen A (0,0):=fun A q _ hq=>by simp at hq
 have hcpA: ∀(W:World),W.heap=W1.heap→ ∀ty dc,(Builtin.copy_ #[40,40] ty #[.slice (some ⟨w.heap.size,i*2,none⟩) (n+1 - i) dc,.slice (some ⟨vb,0,none⟩) 1 vc]).run Tryz.prog W= .ok (goInt (1:Nat)) (setBlk W w.heap.size (.cells (splice ROW (i*2) news) 65 (0,0))):=fun W hW ty dc=>
  run_copy_in Tryz.underlying40 hinfo2 (by simp only[Nat.min_def];split<;>omega) (by rw[hn0]) (fun j v e=>by
   have hj:j<2:=by rw[←hn0];exact(List.getElem?_eq_some_iff.1 e).1
   rw[hn,List.getElem?_take,if_pos hj,Array.getElem?_toList]at e
   rw[Addr.add_lit];simpa[World.cell?,hW,hN3]using e) (by rw[hW];exact hN1) (hf0 _) (by rw[hn0];omega) h1n
 obtain⟨W2,hW2⟩: ∃W2,W2=setBlk W1 w.heap.size (.cells (splice ROW (i*2) news) 65 (0,0)):=⟨_,rfl⟩
 have hM1:W2.heap[w.heap.size]? =some (.cells (splice ROW (i*2) news) 65):=by rw[hW2];exact setBlk_heap _ _ _ (Array.getElem?_eq_some_iff.1 hN1).1
 have hM2:W2.heap[b]? =some (.cells arr T fz):=by rw[hW2,setBlk_other _ _ _ _ (by omega)];exact hN2
 have hcpB: ∀(W:World),W.heap=W2.heap→ ∀ty dc sc,(Builtin.copy_ #[40,40] ty #[.slice (some ⟨w.heap.size,(i+1)*2,none⟩) (n - i) dc,.slice (some ⟨b,i*2,none⟩) (n - i) sc]).run Tryz.prog W= .ok (goInt (n - i:Nat)) (setBlk W w.heap.size (.cells (splice (splice ROW (i*2) news) ((i+1)*2) D) 65 (0,0))):=fun W hW ty dc sc=>
  run_copy_in Tryz.underlying40 hinfo2 (by simp only[Nat.min_def];split<;>omega) hD0 (fun j v e=>by
   have hj:j<(n - i)*2:=by rw[←hD0];exact(List.getElem?_eq_some_iff.1 e).1
   rw[hD,List.getElem?_drop,List.getElem?_take,if_pos (by omega),Array.getElem?_toList]at e
   rw[Addr.add_lit];simpa[World.cell?,hW,hM2]using e) (by rw[hW];exact hM1) (hf0 _) (by rw[splice_size,hD0];omega) (fun v hv2=>h1D v (List.mem_of_mem_drop (by rw[hD]at hv2;exact hv2)))
 refine⟨G,splice (splice ROW (i*2) news) ((i+1)*2) D,hGn,by rw[splice_size,splice_size];exact hR1, ?_, ?_⟩
 ·have hl1:(splice (splice ROW (i*2) news) ((i+1)*2) D).size=ROW.size:=by rw[splice_size,splice_size]
  refine List.ext_getElem? fun k=> ?_
  have hA:(arr.toList.take (i*2)).length=i*2:=by simp;omega
  by_cases hk:k<(n+1)*2
  ·rw[List.getElem?_take,if_pos hk,Array.getElem?_toList,splice_get _ _ _ _ (by rw[splice_size];omega),splice_get _ _ _ _ (by omega)]
   by_cases h1:(i+1)*2≤k
   ·rw[if_pos (by omega),List.getElem?_append_right (by simp only[List.length_append,hA,hn0];omega)]
    simp only[List.length_append,hA,hn0]
    congr 1;omega
   ·rw[if_neg (by omega),List.getElem?_append_left (by simp only[List.length_append,hA,hn0];omega)]
    by_cases h2:i*2≤k
    ·rw[if_pos (by omega),List.getElem?_append_right (by omega),hA]
    ·rw[if_neg (by omega),List.getElem?_append_left (by omega),←hR2,List.getElem?_take,if_pos (by omega),Array.getElem?_toList]
  ·rw[List.getElem?_eq_none (by simp;omega),List.getElem?_eq_none (by simp only[List.length_append,hA,hn0,←hD,hD0];omega)]
 rw[←hW1]at hrz
 have hfin:setBlk W2.drew w.heap.size (.cells (splice (splice ROW (i*2) news) ((i+1)*2) D) 65 (0,0))=w.drew.drew.alloc (.cells (splice (splice ROW (i*2) news) ((i+1)*2) D) 65):=by
  rw[hW2,hW1]
  have e1:=setBlk_new w.drew (.cells ROW 65) (.cells (splice ROW (i*2) news) 65 (0,0))
  have e0:w.drew.heap.size=w.heap.size:=rfl
  rw[e0]at e1
  rw[e1]
  exact setBlk_new w.drew.drew _ _
 have hGi: ¬(G=i):=by omega
 have hGim: ¬(G=i+1):=by omega
 clear hold hGn' hcap hkk hik hG hn hD
 subst hW2
 subst hW1
 have hE1:((w.alloc (.cells ROW 65)).drew).heap=(w.drew.alloc (.cells ROW 65)).heap:=rfl
 have hE2:((setBlk ((w.alloc (.cells ROW 65)).drew) w.heap.size (.cells (splice ROW (i*2) news) 65 (0,0))).drew).heap=(setBlk (w.drew.alloc (.cells ROW 65)) w.heap.size (.cells (splice ROW (i*2) news) 65 (0,0))).heap:=rfl
 go_enter Tryz.func88,Tryz.ntmps88
 go_wp2_with (first
  |(at_builtin;refine Lib.wpList_append_run _ rfl _ _ _ _ rfl _ _ rfl rfl _ _ hrz ?_)
  |(at_builtin;refine wpList_copy_runI _ rfl _ _ 40 40 rfl _ _ rfl rfl (hcpA _ hE1 _ _) ?_))
 go_region_law (refine step_copy_runI rfl _ _ 40 40 rfl (.slice (some ⟨w.heap.size,(i+1)*2,none⟩) (n - i) (G - (i+1))) (.slice (some ⟨b,i*2,none⟩) (n - i) (c - i)) (by simp[Act.eval,Act.put,hGim]) (by simp[Act.eval,Act.put]) (hcpB _ hE2 3 (G - (i+1)) (c - i)) ?_)
 go_wp2
 go_ret
 exact⟨rfl,hfin⟩
end Go.Proofs.YtajjjghohakniaaGreat
namespace Go.Proofs.YtajjjghohakniaaGreat
open Go Go.Vx
set_option maxRecDepth 100000
set_option maxHeartbeats 1000000
theorem setBlk_twice (w:World) (b:Nat) (o o':Go.Obj):setBlk (setBlk w b o) b o'=setBlk w b o':=by
 show{w with heap:=(w.heap.setIfInBounds b o).setIfInBounds b o'}={w with heap:=w.heap.setIfInBounds b o'}
 congr 1
 apply Array.ext_getElem?
 intro i
 rw[Array.getElem?_setIfInBounds,Array.getElem?_setIfInBounds]
 by_cases h:b=i
 ·subst h;simp[Array.getElem?_setIfInBounds]
 ·simp[h,Array.getElem?_setIfInBounds]
theorem splice_two (arr:Array Value) (o s:Nat) (D news:List Value) (hn:news.length=s) (hfit:o+s+D.length≤arr.size):splice (splice arr (o+s) D) o news=splice arr o (news++D):=by
 apply Array.ext_getElem?
 intro k
 rw[splice_get _ _ _ _ (by rw[splice_size];omega),splice_get _ _ _ _ hfit,splice_get _ _ _ _ (by rw[List.length_append];omega)]
 by_cases h1:o≤k∧k<o+news.length
 ·rw[if_pos h1,if_pos (by rw[List.length_append];omega),List.getElem?_append_left (by omega)]
 ·rw[if_neg h1]
  by_cases h2:o+s≤k∧k<o+s+D.length
  ·rw[if_pos h2,if_pos (by rw[List.length_append];omega),List.getElem?_append_right (by omega)]
   congr 1;omega
  ·rw[if_neg h2,if_neg (by rw[List.length_append];omega)]
theorem flatten_take {s:Nat} {rows:List (List V)} (h:uni s rows) (i:Nat) (hi:i≤rows.length):(rows.take i).flatten=rows.flatten.take (i*s):=by
 have hl:(rows.take i).flatten.length=i*s:=by rw[flatten_len (fun r hr=>h r (List.mem_of_mem_take hr)),List.length_take,Nat.min_eq_left hi]
 have e:rows.flatten=(rows.take i).flatten++(rows.drop i).flatten:=by rw[←List.flatten_append,List.take_append_drop]
 rw[e]
 rw[List.take_append_of_le_length (Nat.le_of_eq hl.symm),List.take_of_length_le (Nat.le_of_eq hl)]
theorem flatten_drop {s:Nat} {rows:List (List V)} (h:uni s rows) (i:Nat) (hi:i≤rows.length):(rows.drop i).flatten=rows.flatten.drop (i*s):=by
 have hl:(rows.take i).flatten.length=i*s:=by rw[flatten_len (fun r hr=>h r (List.mem_of_mem_take hr)),List.length_take,Nat.min_eq_left hi]
 have e:rows.flatten=(rows.take i).flatten++(rows.drop i).flatten:=by rw[←List.flatten_append,List.take_append_drop]
 rw[e]
 rw[List.drop_append_of_le_length (Nat.le_of_eq hl.symm),List.drop_of_length_le (Nat.le_of_eq hl),List.nil_append]
theorem insert_w (σ:St) (p q:Nat) (rows:List (List V)) (x:List V) (i:Nat) (hp:σ[p]? =some (.lst rows 2)) (hq:σ[q]? =some (.lst [x] 2)) (hpq:p≠q) (hi:i≤rows.length) (hbig:(rows.length+1)*32≤140737488355328):
  VCalls Tryz.prog 88 [.lsv p 2 rows.length 0 rows.length,.int .i64 i,.lsv q 2 1 0 1] σ
   (fun r σ'=>r= .lsv p 2 (rows.length+1) 0 (rows.length+1)∧σ'=σ.set p (.lst (rows.take i++x::rows.drop i) 2)):=by
 intro w L β vals hm ha
 match vals,ha with
 | [v0,v1,v2],⟨h0,h1,h2,_⟩=>
 obtain⟨a,c0,rfl,⟨hm1,hm2⟩,hpos,hc⟩:=h0
 obtain⟨rows',e,hn',hb⟩: ∃rows',σ[p]? =some (.lst rows' 2)∧rows.length≤rows'.length∧(rows.length=rows'.length→ ∃b c1,β[p]? =some (.slice b rows.length c1)∧c0=c1 - 0∧0≤c1∧(0<c1→ ∃k,b=some ⟨k,0,none⟩∧a=some ⟨k,0*2,none⟩)):=hc.resolve_left (by rw[hp];simp)
 rw[hp]at e;cases e
 obtain⟨b0,c1,hβ,hcc,_,hadr⟩:=hb rfl
 rw[Nat.sub_zero]at hcc
 subst hcc
 obtain⟨a',cq,rfl,⟨hq1,_⟩,_,hcq⟩:=h2
 obtain⟨rowsq,e,_,hbq⟩: ∃rows',σ[q]? =some (.lst rows' 2)∧1≤rows'.length∧(1=rows'.length→ ∃b c1,β[q]? =some (.slice b 1 c1)∧cq=c1 - 0∧0≤c1∧(0<c1→ ∃k,b=some ⟨k,0,none⟩∧a'=some ⟨k,0*2,none⟩)):=hcq.resolve_left (by rw[hq];simp)
 rw[hq]at e;cases e
 obtain⟨bq,c1,hβq,hcc,_,hadrq⟩:=hbq rfl
 rw[Nat.sub_zero]at hcc
 subst hcc
 obtain⟨vb,rfl,rfl⟩:=hadrq (by omega)
 have hokp:=hm.objs p _ _ hp hβ
 obtain⟨a2,cap2,e1,hcp2,hs2,hur,hok⟩:=hm.objs p _ _ hp hβ
 cases e1
 obtain⟨a3,cap3,e1,hcp3,hs3,hurq,hokq⟩:=hm.objs q _ _ hq hβq
 cases e1
 obtain⟨vb',arrv,Tv,fzv,e1,hhv,hfv,hszv,hLv,hallq⟩:=hokq (by omega)
 cases e1
 cases (show v1= .int .i64 (i:Int) from by cases h1;rfl)
 have hx2:x.length=2:=hurq x (by simp)
 obtain⟨news,hnews⟩: ∃news,news=arrv.toList.take 2:=⟨_,rfl⟩
 have hvsz:2≤arrv.size:=by omega
 have hn0:news.length=2:=by rw[hnews];simp;omega
 have hxn:All2 (RdC w L σ β) x news:=by rw[hnews];simpa using hallq
 have h1n: ∀v∈news,v.oneCell'=true:=fun v hv=>by
  obtain⟨j,hj⟩:=List.mem_iff_getElem?.1 hv
  have hjl:j<x.length:=by rw[hxn.length];exact(List.getElem?_eq_some_iff.1 hj).1
  obtain⟨z,hz,r⟩:=hxn.get j _ (List.getElem?_eq_getElem hjl)
  rw[hj]at hz;cases hz;exact r.oneCell
 have hpl:p<σ.length:=(List.getElem?_eq_some_iff.1 hp).1
 have hfl:=flatten_len hur
 have hu2:uni 2 (rows.take i++x::rows.drop i):=fun r hr=>by
  rcases List.mem_append.1 hr with hr|hr
  ·exact hur r (List.mem_of_mem_take hr)
  ·rcases List.mem_cons.1 hr with rfl|hr
   ·exact hx2
   ·exact hur r (List.mem_of_mem_drop hr)
 have hlen2:(rows.take i++x::rows.drop i).length=rows.length+1:=by simp;omega
 have hfl2:(rows.take i++x::rows.drop i).flatten=rows.flatten.take (i*2)++(x++rows.flatten.drop (i*2)):=by
  rw[List.flatten_append,List.flatten_cons,flatten_take hur i hi,flatten_drop hur i hi]
 have hput:(rows.take i++x::rows.drop i).flatten=putCells rows.flatten (i*2) (x++rows.flatten.drop (i*2)):=by
  unfold putCells
  rw[hfl2,List.drop_of_length_le (l:=rows.flatten) (i:=i*2+_) (by simp only[List.length_append,List.length_drop];omega),List.append_nil]
 have hvb: ∀k0,b0=some ⟨k0,0,none⟩→0<c0→vb≠k0:=fun k0 e hc e2=>by
  subst e;subst e2
  exact hm.apart p q _ _ _ _ vb hpq hp hβ hq hβq (by simp[excl,hc]) (by simp[excl];omega)
 have hsrc:Src Tryz.prog 2 40 (.slice (some ⟨vb,0*2,none⟩) 1 cq) 1 news w:=Src.ofSlice w Tryz.underlying40 ⟨vb,0*2,none⟩ 1 cq news (by rw[hn0]) (fun j u hj=>by
  have hj2:j<2:=by rw[←hn0];exact(List.getElem?_eq_some_iff.1 hj).1
  rw[hnews,List.getElem?_take,if_pos hj2,Array.getElem?_toList]at hj
  rw[Addr.add_lit];simpa[World.cell?,hhv]using hj) h1n
 have done: ∀(w':World) (k1 c1:Nat),rows.length+1≤c1→Mem (entry w L σ β) w' L (σ.set p (.lst (rows.take i++x::rows.drop i) 2)) (β.set p (.slice (some ⟨k1,0,none⟩) (rows.length+1) c1))→
   ∃v r L' σ' β',Ending.returned (.slice (some ⟨k1,0,none⟩) (rows.length+1) c1)= .returned v∧(r= .lsv p 2 (rows.length+1) 0 (rows.length+1)∧σ'=σ.set p (.lst (rows.take i++x::rows.drop i) 2))∧σ.length≤σ'.length∧Mem (entry w L σ β) w' L' σ' β'∧RdS w' L' σ' β' r v:=by
  intro w' k1 c1 hc1 hmem
  refine⟨_,_,L,_,_,rfl,⟨rfl,rfl⟩,by simp,hmem, ?_⟩
  refine⟨_,c1,rfl,⟨hc1,by omega⟩,fun _=>⟨_,_,rfl⟩,.inr ⟨_,List.getElem?_set_self hpl,by rw[hlen2];exact Nat.le_refl _,fun _=>⟨_,c1,List.getElem?_set_self (by rw[hm.len];exact hpl),rfl,Nat.zero_le _,fun _=>⟨k1,rfl,by rw[Nat.zero_mul]⟩⟩⟩⟩
 by_cases hlt:i<rows.length
 ·have hc0:0<c0:=by omega
  obtain⟨k0,rfl,rfl⟩:=hadr hc0
  obtain⟨k0',arr,T,fz,e1,hh,hf,hsz,hL,hall⟩:=hok hc0
  cases e1
  have hcm:rows.length*2≤c0*2:=Nat.mul_le_mul_right _ hcp2
  obtain⟨D,hD⟩: ∃D,D=(arr.toList.take (rows.length*2)).drop (i*2):=⟨_,rfl⟩
  have hD0:D.length=(rows.length - i)*2:=by rw[hD];simp;omega
  have hDr:All2 (RdC w L σ β) (rows.flatten.drop (i*2)) D:=by rw[hD];exact hall.drop _
  have hD2:D=(arr.toList.drop (i*2)).take ((rows.length - i)*2):=by rw[hD,List.drop_take];congr 1;omega
  have hone: ∀v∈arr.toList.take (rows.length*2),v.oneCell'=true:=fun v hv=>by
   obtain⟨j,hj⟩:=List.mem_iff_getElem?.1 hv
   have hjl:j<rows.flatten.length:=by rw[hall.length];exact(List.getElem?_eq_some_iff.1 hj).1
   obtain⟨z,hz,r⟩:=hall.get j _ (List.getElem?_eq_getElem hjl)
   rw[hj]at hz;cases hz;exact r.oneCell
  by_cases hroom:rows.length+1≤c0
  ·have hd:=hm.drew
   obtain⟨arr',T',fz',hh',_,_,hmem,hle,hext⟩:=hd.1.lstPut (off:=i*2) (vs:=x++rows.flatten.drop (i*2)) (xs:=news++D) (rows2:=rows.take i++x::rows.drop i) hp hβ hc0
    ((hxn.append hDr).imp fun _ _=>RdC.mono hd.2 (Ext.refl _ _)) (by omega) hu2 hput (by omega) (by omega)
   rw[show w.drew.heap[k0]? =w.heap[k0]? from rfl,hh]at hh'
   cases hh'
   refine(ins_shift k0 vb c0 cq rows.length i arr arrv T Tv fz fzv D news w hlt hroom (by omega) (hvb k0 rfl hc0) hh hf.1 hsz hhv hfv hvsz hD2 hnews (fun v hv=>hone v (List.mem_of_mem_drop (by rw[←hD];exact hv))) h1n).mono ?_
   rintro e w' ⟨rfl,rfl⟩
   rw[setBlk_twice,show(i+1)*2=i*2+2 by omega,splice_two _ _ _ _ _ hn0 (by omega)]
   rw[hlen2]at hmem
   exact done _ k0 c0 hroom hmem
  ·obtain⟨cap',arr',hge,hsz',htk,hcall⟩:=ins_grow k0 vb c0 cq rows.length i arr arrv T Tv fz fzv news w hlt (by omega) hcp2 hbig (hvb k0 rfl hc0) hh hsz hhv hvsz hnews hone h1n
   refine hcall.mono ?_
   rintro e w' ⟨rfl,rfl⟩
   have hd:=hm.drew
   have hd2:=hd.1.drew
   have hcells:All2 (RdC w.drew.drew L σ β) (rows.take i++x::rows.drop i).flatten (arr'.toList.take ((rows.take i++x::rows.drop i).length*2)):=by
    rw[hlen2,htk,hfl2,List.append_assoc]
    refine((?_:All2 (RdC w L σ β) _ _).append (hxn.append hDr|>fun h=>by rw[hD]at h;exact h)).imp fun _ _=>RdC.mono (hd.2.trans hd2.2) (Ext.refl _ _)
    have:=hall.take (i*2)
    rwa [List.take_take,Nat.min_eq_left (by omega)]at this
   obtain⟨hmem,hle,hext⟩:=hd2.1.lstRe (cap:=cap') (T:=65) hp hβ hs2 hu2 hcells (by omega) (by omega) hsz'
   rw[hlen2]at hmem
   exact done _ _ cap' hge hmem
 ·have hin:i=rows.length:=by omega
  subst hin
  have hdr:rows.flatten.drop (rows.length*2)= []:=List.drop_of_length_le (by omega)
  by_cases hroom:rows.length+1≤c0
  ·have hc0:0<c0:=by omega
   obtain⟨k0,rfl,rfl⟩:=hadr hc0
   obtain⟨arr,T,fz,hh,hf,hfit,hmem,hle,hext⟩:=hm.lstPut (off:=rows.length*2) (vs:=x++rows.flatten.drop (rows.length*2)) (xs:=news) (rows2:=rows.take rows.length++x::rows.drop rows.length) hp hβ hc0
    (by rw[hdr,List.append_nil];exact hxn) (Nat.le_refl _) hu2 hput (by omega) (by omega)
   obtain⟨k0',arr2,T2,fz2,e1,hh2,_,hsz,_,_⟩:=hok hc0
   cases e1
   rw[hh]at hh2;cases hh2
   refine(ins_end_room k0 c0 rows.length arr T fz _ news w hroom (by omega) hh hf hsz _ _ rfl hsrc).mono ?_
   rintro e w' ⟨rfl,rfl⟩
   rw[hlen2]at hmem
   exact done _ k0 c0 hroom hmem
  ·obtain⟨olds,hold,hlo,hallo⟩:=lst_olds (P:=Tryz.prog) Tryz.underlying40 hokp
   have hold2:(Builtin.firstCells 2 rows.length (.slice a rows.length c0)).run Tryz.prog w.drew= .ok olds.toArray w.drew:=by
    by_cases hc0:0<c0
    ·obtain⟨k0,rfl,rfl⟩:=hadr hc0
     exact hold
    ·have hr0:rows= []:=List.eq_nil_of_length_eq_zero (by omega)
     subst hr0
     have ho0:olds= []:=List.eq_nil_of_length_eq_zero (by rw[hlo];simp)
     subst ho0
     cases a with
     |none=>exact(Src.ofNil (P:=Tryz.prog) (size:=2) w Tryz.underlying40 0).cellsD
     |some a0=>exact(Src.ofSlice (P:=Tryz.prog) (size:=2) w Tryz.underlying40 a0 0 0 [] (by simp) (fun j u h=>by simp at h) (fun _ h=>by cases h)).cellsD
   obtain⟨cap',arr',hge,hsz',htk,hcall⟩:=ins_end_grow a c0 rows.length (.slice (some ⟨vb,0*2,none⟩) 1 cq) olds news w (by omega) hcp2 hbig hold2 hlo _ _ rfl hsrc
   refine hcall.mono ?_
   rintro e w' ⟨rfl,rfl⟩
   have hd:=hm.drew
   have hcells:All2 (RdC w.drew L σ β) (rows.take rows.length++x::rows.drop rows.length).flatten (arr'.toList.take ((rows.take rows.length++x::rows.drop rows.length).length*2)):=by
    rw[hlen2,htk,hfl2,hdr,List.append_nil,List.take_of_length_le (by omega)]
    exact(hallo.append hxn).imp fun _ _=>RdC.mono hd.2 (Ext.refl _ _)
   obtain⟨hmem,hle,hext⟩:=hd.1.lstRe (cap:=cap') (T:=65) hp hβ hs2 hu2 hcells (by omega) (by omega) hsz'
   rw[hlen2]at hmem
   exact done _ _ cap' hge hmem
end Go.Proofs.YtajjjghohakniaaGreat
