/-
  slices.Insert over a list of structs, as it goes in memory: what the library Vx has no word for (the capacity of a slice; memory shifted within a block).
  Conditions: as each theorem states them.
-/
import Derived.Test.YtajjjghohakniaaGreatLBD
import Derived.Test.YtajjjghohakniaaGreatLAO
import Derived.Test.YtajjjghohakniaaGreatLAP
import Derived.Lib.Overlaps
import Derived.Lib.AppendZerosOnto
import Derived.Laws.Externs
import Derived.Laws.IdiomCopy
import Derived.Deep.RegionLaw
namespace Go.Proofs.YtajjjghohakniaaGreat
open Go Go.Vx R
set_option maxRecDepth 100000
def lowF (l:List Int) (v:Int):Nat:=(l.filter fun x=>decide (x<v)).length
theorem yX8 (l:List Int) (v:Int) (i:Nat) (hi:i≤l.length) (h1: ∀k (h:k<l.length),k<i→l[k]<v) (h2: ∀k (h:k<l.length),i≤k→v≤l[k]):lowF l v=i:=by
 unfold lowF
 have e:l=l.take i++l.drop i:=(List.take_append_drop i l).symm
 rw[e,List.filter_append,List.length_append]
 have ha:(l.take i).filter (fun x=>decide (x<v))=l.take i:=List.filter_eq_self.2 fun x hx=>by
  obtain⟨k,hk,rfl⟩:=List.mem_iff_getElem.1 hx
  rw[List.getElem_take]
  rw[List.length_take]at hk
  exact decide_eq_true (h1 k (by omega) (by omega))
 have hb:(l.drop i).filter (fun x=>decide (x<v))= []:=List.filter_eq_nil_iff.2 fun x hx=>by
  obtain⟨k,hk,rfl⟩:=List.mem_iff_getElem.1 hx
  rw[List.getElem_drop]
  rw[List.length_drop]at hk
  have:=h2 (i+k) (by omega) (by omega)
  simp;omega
 rw[ha,hb,List.length_take]
 simp;omega
theorem yG3 (l:List Int) (v:Int) (hs:l.Pairwise (· < ·)) (i:Nat) (h1: ∀k (h:k<l.length),k<i→l[k]<v) (h2: ∀k (h:k<l.length),i≤k→v≤l[k]):(if h:i<l.length then l[i]==v else false)=l.contains v:=by
 rw[Bool.eq_iff_iff,List.contains_iff_mem]
 constructor
 ·intro h
  split at h
  ·rename_i hi
   rw[←eq_of_beq h]
   exact List.getElem_mem hi
  ·cases h
 ·intro h
  obtain⟨k,hk,rfl⟩:=List.mem_iff_getElem.1 h
  have hki:i≤k:=by
   rcases Nat.lt_or_ge k i with q|q
   ·have:=h1 k hk q;omega
   ·exact q
  have hi:i<l.length:=by omega
  rw[dif_pos hi]
  have hki2:k=i:=by
   rcases Nat.lt_or_ge i k with q|q
   ·have h3:=List.pairwise_iff_getElem.1 hs i k hi hk q
    have h4:=h2 i hi (Nat.le_refl _)
    omega
   ·omega
  subst hki2
  exact beq_self_eq_true _
theorem yV6 (s k:Nat):(s:Int).fdiv k=((s/k:Nat):Int):=by
 rw[Int.fdiv_eq_ediv_of_nonneg _ (by omega)]
 rfl
theorem yn0 (x:Int):Pure Tryz.prog 137 [.int .i64 x] (.bool false):=by
 refine VCalls.intro 0 Tryz.func137 Tryz.ntmps137 Tryz.results137 rfl rfl (Nat.le_of_ble_eq_true rfl) fun c hc hb=>zJ ?_
 simp[go_sem]
 exact zQ (zA rfl) ⟨rfl,rfl⟩
def cmpI (x y:Int):Int:=if x<y then -1 else if x>y then 1 else 0
theorem ym9 (x y:Int):Pure Tryz.prog 87 [.int .i64 x,.int .i64 y] (.int .i64 (cmpI x y)):=by
 generalize hM:cmpI x y=M
 have ret: ∀(r:Int) (σ:St),r=M→wret (some (.int .i64 r)) 0 (fun r s=>r= .int .i64 M∧s= []) σ:=fun r σ h=>by subst h;exact zQ (zA rfl) ⟨rfl,rfl⟩
 unfold cmpI at hM
 refine VCalls.intro 0 Tryz.func87 Tryz.ntmps87 Tryz.results87 rfl rfl (Nat.le_of_ble_eq_true rfl) fun c hc hb=>zJ ?_
 simp[go_sem]
 refine zD (yn0 x) Tryz.callB137 (zG rfl) rfl ?_
 simp[go_sem]
 refine zD (yn0 y) Tryz.callB137 (zG rfl) rfl ?_
 simp[go_sem]
 repeat' (first|(refine zS (fun q=> ?_) (fun q=> ?_)<;>simp[go_sem,q]))
 all_goals exact ret _ _ (by rw[←hM];simp only[decide_eq_true_eq,decide_eq_false_iff_not]at*;(repeat' split)<;>omega)
@[go_sem] def uRow (x:Int×List GSpan):List V:= [.int .i64 x.1,.sl .ro (x.2.map GSpan.row)]
theorem yG8 (x:Int×List GSpan) (r:Int):Pure Tryz.prog 86 [.agg (uRow x),.int .i64 r] (.int .i64 (cmpI x.1 r)):=by
 refine VCalls.intro 0 Tryz.func86 Tryz.ntmps86 Tryz.results86 rfl rfl (Nat.le_of_ble_eq_true rfl) fun c hc hb=>zJ ?_
 simp[go_sem]
 refine zD (ym9 x.1 r) Tryz.callB87 (zG rfl) rfl ?_
 simp[go_sem]
 exact zQ (zA rfl) ⟨rfl,rfl⟩
theorem xr6 (l:List GSpan) (x:GSpan) (hl:l.length≤maxLen):Pure Tryz.prog 140 [.sl .ro (l.map GSpan.row),.agg x.row] (.int .i64 (xO (fun t:GSpan=>t==x) l 0)):=by
 generalize hM:xO (fun t:GSpan=>t==x) l 0=M
 have ret: ∀(r:Int) (σ:St),r=M→wret (some (.int .i64 r)) 0 (fun r s=>r= .int .i64 M∧s= []) σ:=fun r σ h=>by subst h;exact zQ (zA rfl) ⟨rfl,rfl⟩
 refine VCalls.introV 0 Tryz.func140 Tryz.ntmps140 Tryz.results140 rfl rfl (Nat.le_of_ble_eq_true rfl) fun c hc hb=> ?_
 refine zC ?_
 simp[go_sem]
 refine zN (S:=Nat) [0,3,7,8] (fun i=> [.sl .ro (l.map GSpan.row),.ptr 0 0,.int .i64 l.length,.int .i64 i]) (fun _=> [.box x.row]) (fun i=>l.length - i) (fun i=>i≤l.length∧xO (fun t:GSpan=>t==x) (l.drop i) i=M) hc hb 0 ⟨Nat.zero_le _,hM⟩ ?_ ?_
 ·exact at_n 1 (by simp[go_sem]) rfl rfl (Nat.zero_le _) (zE (by simp[go_sem]) rfl)
 rintro i ⟨hi,hinv⟩
 by_cases q:i<l.length
 rotate_left
 ·rw[List.drop_of_length_le (by omega),xO]at hinv
  refine zC ?_
  simp[go_sem,q]
  exact ret _ _ hinv
 have ei:=zU q (by unfold maxLen at hl;omega)
 obtain⟨y,hy⟩: ∃y,l[i]=y:=⟨_,rfl⟩
 rw[List.drop_eq_getElem_cons q,hy,xO]at hinv
 refine zC ?_
 simp[go_sem,q]
 refine zi5 [] 1 rfl (by kernel_rfl) (by kernel_rfl) ?_
 simp[go_sem,q,hy]
 have hbx:(x.lo==y.lo&&x.hi==y.hi)=(y==x):=by
  rw[Bool.eq_iff_iff]
  obtain⟨a,b⟩:=x;obtain⟨c,d⟩:=y
  simp only[Bool.and_eq_true,beq_iff_eq,GSpan.mk.injEq]
  exact⟨fun h=>⟨h.1.symm,h.2.symm⟩,fun h=>⟨h.1.symm,h.2.symm⟩⟩
 rw[hbx]
 refine zS (fun w=> ?_) (fun w=> ?_)
 ·rw[if_pos w]at hinv
  simp[go_sem]
  exact ret _ _ hinv
 ·rw[if_neg (by rw[w];decide)]at hinv
  simp[go_sem,ei]
  exact zP (i+1) ⟨by omega,⟨q,hinv⟩,at_n 1 (by simp[go_sem]) rfl rfl (Nat.zero_le _) (zE (by simp[go_sem]) rfl)⟩
theorem zA8 (x:GSpan): ∀(l:List GSpan) (i:Nat),decide (0≤xO (fun t:GSpan=>t==x) l i)=l.contains x
 | [],_=>rfl
 |y::l,i=>by
  unfold xO
  rw[List.contains_cons,←zA8 x l (i+1)]
  by_cases h:y=x
  ·subst h;simp
  ·rw[if_neg (by simpa using h),show(x==y)=false by simpa using fun e=>h e.symm,Bool.false_or]
theorem yW2 (l:List GSpan) (x:GSpan) (hl:l.length≤maxLen):Pure Tryz.prog 89 [.sl .ro (l.map GSpan.row),.agg x.row] (.bool (l.contains x)):=by
 have h:=xr6 l x hl
 rw[←zA8 x l 0]
 refine VCalls.intro 0 Tryz.func89 Tryz.ntmps89 Tryz.results89 rfl rfl (Nat.le_of_ble_eq_true rfl) fun c hc hb=>zJ ?_
 simp[go_sem]
 refine zD h Tryz.callB140 (zI (by simp[go_sem]) rfl) rfl ?_
 simp[go_sem]
 exact zQ (zA rfl) ⟨rfl,rfl⟩
set_option maxHeartbeats 1000000 in
theorem xv0 (U:List (Int×List GSpan)) (v:Int) (hl:U.length≤1000) (hs:(U.map (·.1)).Pairwise (· < ·)):
  Pure Tryz.prog 85 [.sl .ro (U.map uRow),.int .i64 v,.fn 86 []] (.tup [.int .i64 (lowF (U.map (·.1)) v:Nat),.bool ((U.map (·.1)).contains v)]):=by
 obtain⟨l,hle⟩: ∃l,U.map (·.1)=l:=⟨_,rfl⟩
 have hll:l.length=U.length:=by rw[←hle];simp
 rw[hle]at hs⊢
 have hget: ∀(k:Nat) (hk:k<U.length),l[k]'(by omega)=(U[k]).1:=fun k hk=>by subst hle;simp
 refine VCalls.introV 0 Tryz.func85 Tryz.ntmps85 Tryz.results85 rfl rfl (Nat.le_of_ble_eq_true rfl) fun c hc hb=> ?_
 refine zC ?_
 simp[go_sem]
 refine zN (S:=Nat×Nat) [0,1,2,8,9,10] (fun u=> [.sl .ro (U.map uRow),.int .i64 v,.fn 86 [],.int .i64 U.length,.int .i64 u.1,.int .i64 u.2]) (fun _=> []) (fun u=>u.2 - u.1)
  (fun u=>u.1≤u.2∧u.2≤l.length∧(∀k (h:k<l.length),k<u.1→l[k]<v)∧(∀k (h:k<l.length),u.2≤k→v≤l[k])) hc hb (0,l.length) ⟨Nat.zero_le _,Nat.le_refl _,fun k _ h=>absurd h (Nat.not_lt_zero _),fun k h h'=>by simp only at h';omega⟩ ?_ ?_
 ·exact at_0 rfl (zI (by simp[go_sem,hll]) rfl)
 rintro⟨i,j⟩ ⟨hij,hj,h1,h2⟩
 simp only at hij hj h1 h2
 by_cases q:i<j
 rotate_left
 ·have hji:j=i:=by omega
  subst hji
  have hlow:=yX8 l v j hj h1 h2
  have hhas:=yG3 l v hs j h1 h2
  rw[hlow]
  by_cases q2:j<U.length
  ·obtain⟨x,hx⟩: ∃x,U[j]=x:=⟨_,rfl⟩
   rw[dif_pos (by omega),hget j q2,hx]at hhas
   have hcb:(cmpI x.1 v==0)=(x.1==v):=by
    rw[Bool.eq_iff_iff];simp only[beq_iff_eq];unfold cmpI
    (repeat' split)<;>omega
   have hn1:=yG8 x v
   rw[←hhas]
   refine zC ?_
   simp[go_sem,q2,hx]
   refine zD hn1 Tryz.callB86 (zI (by simp[go_sem]) rfl) rfl ?_
   simp[go_sem,hcb]
   exact zQ (zA rfl) ⟨rfl,rfl⟩
  ·rw[dif_neg (by omega)]at hhas
   rw[←hhas]
   refine zC ?_
   simp[go_sem,q2]
   exact zQ (zA rfl) ⟨rfl,rfl⟩
 obtain⟨h,hh⟩: ∃h,(i+j)/2=h:=⟨_,rfl⟩
 have hhi:i≤h:=by omega
 have hhj:h<j:=by omega
 have hhl:h<U.length:=by omega
 have hhl2:h<l.length:=by omega
 obtain⟨x,hx⟩: ∃x,U[h]=x:=⟨_,rfl⟩
 have hlx:l[h]=x.1:=by rw[hget h hhl,hx]
 have e1:IntKind.i64.wrap ((i:Int)+j)=((i+j:Nat):Int):=by rw[i64_id (by omega) (by omega)];omega
 have em:IntKind.i64.wrap ((IntKind.u64.wrap (IntKind.i64.wrap ((i:Int)+j))).fdiv 2)=(h:Int):=by
  rw[e1,Vx.u64_id (by omega) (by omega),show(2:Int)=((2:Nat):Int) by rfl,yV6,hh,i64_id (by omega) (by omega)]
 have eh:=zU hhl (by omega)
 have hn1:=yG8 x v
 have hcl:decide (cmpI x.1 v<0)=decide (x.1<v):=by
  rw[Bool.eq_iff_iff];simp only[decide_eq_true_eq];unfold cmpI
  (repeat' split)<;>omega
 refine zC ?_
 simp[go_sem,q,em,hhl,hx]
 refine zD hn1 Tryz.callB86 (zI (by simp[go_sem]) rfl) rfl ?_
 simp[go_sem,hcl]
 refine zS (fun w=> ?_) (fun w=> ?_)
 ·have w:x.1<v:=by simpa using w
  simp[go_sem,eh]
  refine zP (h+1,j) ⟨by simp only;omega,⟨by simp only;omega,by simp only;omega,fun k hk hkh=> ?_,h2⟩,at_0 rfl (zI (by simp[go_sem]) rfl)⟩
  simp only at hkh
  rcases Nat.lt_or_ge k h with q3|q3
  ·have:=List.pairwise_iff_getElem.1 hs k h hk hhl2 q3
   omega
  ·have:k=h:=by omega
   subst this
   omega
 ·have w: ¬x.1<v:=by simpa using w
  simp[go_sem]
  refine zP (i,h) ⟨by simp only;omega,⟨by simp only;omega,by simp only;omega,h1,fun k hk hkh=> ?_⟩,at_0 rfl (zI (by simp[go_sem]) rfl)⟩
  simp only at hkh
  rcases Nat.lt_or_ge h k with q3|q3
  ·have:=List.pairwise_iff_getElem.1 hs h k hhl2 hk q3
   omega
  ·have:k=h:=by omega
   subst this
   omega
end Go.Proofs.YtajjjghohakniaaGreat
namespace Go.Proofs.YtajjjghohakniaaGreat
open Go Go.Vx
set_option maxRecDepth 100000
theorem zu1 {P:Program} {w:World} {dT sT ty el:TypeId} {b o dLen dCap sLen sCap s k:Nat} {a:Addr} {arr:Array Value} {T:TypeId} {fz:Nat×Nat} {cs:List Value} (hu:P.underlying dT=some (.slice el)) (hs:(P.info? el).map (·.size)=some s)
  (hk:Nat.min sLen dLen=k) (hn:cs.length=k*s) (hsrc: ∀j v,cs[j]? =some v→w.cell? (a.add j)=some v) (hh:w.heap[b]? =some (.cells arr T fz)) (hf:ze2 arr fz) (hfit:o+cs.length≤arr.size) (h1: ∀v∈cs,v.oneCell'=true):
  (Builtin.copy_ #[dT,sT] ty #[.slice (some ⟨b,o,none⟩) dLen dCap,.slice (some a) sLen sCap]).run P w= .ok (goInt k) (yD w b (.cells (yA arr o cs) T fz)):=by
 have hl:=run_loadCells_list (P:=P) w a cs hsrc
 have hst:=wI P b o T fz cs 0 arr w hh hf (by omega) h1
 rw[Nat.add_zero]at hst
 cases hq:P.info? el with
 |none=>simp[hq]at hs
 |some i=>
  have hi:i.size=s:=by simpa[hq]using hs
  simp[Builtin.copy_,run_underlying hu,Builtin.lenOf,Builtin.firstCells,sizeOf,typeInfo,hq,hi,hk,←hn,hl,hst]
theorem yk9 {P:Program} (w:World) {o:Oper} {a:Act} {K:Act→World→Prop} {Q:Exit→Act→World→Prop} (d s:Operand) (t t':TypeId)
  (ho:o.op= .call {callee:= .builtin .copy,args:= #[d,s],argTypes:= #[t,t']}) (v u:Value) (hd:a.eval d=v) (hs:a.eval s=u) {v':Value} {w':World}
  (hr:(Builtin.copy_ #[t,t'] o.type #[v,u]).run P w= .ok v' w') (h:K (a.put o.dst v') w'):o.wp P a w K Q:=by
 unfold Oper.wp execOp
 simp only[ho,resolve,invoke,builtin,Sem.run_bind,Sem.run_pure,Result.andThen_ok,List.map_toArray,List.map_cons,List.map_nil,hd,hs,hr]
 exact h
theorem zw3 {P:Program} (w:World) {ops:Array Oper} {rest:List Oper} {o:Oper} {a:Act} {Q:Exit→Act→World→Prop} (hgd:o.guard=none) (d s:Operand) (t t':TypeId)
  (ho:o.op= .call {callee:= .builtin .copy,args:= #[d,s],argTypes:= #[t,t']}) (v u:Value) (hd:a.eval d=v) (hs:a.eval s=u) {v':Value} {w':World}
  (hr:(Builtin.copy_ #[t,t'] o.type #[v,u]).run P w= .ok v' w') (h:wpList P ops Q rest (a.put o.dst v') w'):wpList P ops Q (o::rest) a w:=
 wpList_plain hgd fun _ hK=>yk9 w d s t t' ho v u hd hs hr (hK _ _ h)
theorem zC1 {P:Program} {ops:Array Oper} {o:Oper} {a:Act} {w:World} {K:Act→World→Prop} {Q:Exit→Act→World→Prop} {E:Prop}
  (hg:o.guard=none) (d x:Operand) (dT sT:TypeId) (hop:o.op=Op.call {callee:=Callee.builtin Builtin.copy,args:= #[d,x],argTypes:= #[dT,sT]})
  (v u:Value) (hd:a.eval d=v) (hx:a.eval x=u) {v':Value} {w':World} (hr:(Builtin.copy_ #[dT,sT] o.type #[v,u]).run P w= .ok v' w') (hK:K (a.put o.dst v') w'):
  if Region.wanted o (yielded ops a.tmps)=true then Oper.wp P o a w K Q else E:=by
 have hw:Region.wanted o (yielded ops a.tmps)=true:=by simp[Region.wanted,hg]
 rw[if_pos hw]
 unfold Oper.wp
 simp[execOp,hop,resolve,invoke,builtin,hd,hx,hr,Result.andThen]
 exact hK
set_option maxHeartbeats 4000000 in
theorem yM5 (b vb c vc n i:Nat) (arr arrv:Array Value) (T Tv:TypeId) (fz fzv:Nat×Nat) (D news:List Value) (w:World) (hi:i<n) (hroom:n+1≤c) (hn63:n≤9223372036854775806) (hvb:vb≠b)
  (hh:w.heap[b]? =some (.cells arr T fz)) (hf:ze2 arr fz) (hsz:c*2≤arr.size) (hv:w.heap[vb]? =some (.cells arrv Tv fzv)) (hvf:unfrozenL 2 arrv fzv) (hvsz:2≤arrv.size)
  (hD:D=(arr.toList.drop (i*2)).take ((n - i)*2)) (hn:news=arrv.toList.take 2) (h1D: ∀v∈D,v.oneCell'=true) (h1n: ∀v∈news,v.oneCell'=true):
  Calls Tryz.prog 88 #[.slice (some ⟨b,0,none⟩) n c,.int .i64 i,.slice (some ⟨vb,0,none⟩) 1 vc] w fun e w'=>
   e= .returned (.slice (some ⟨b,0,none⟩) (n+1) c)∧w'=yD (yD w.drew b (.cells (yA arr ((i+1)*2) D) T fz)) b (.cells (yA (yA arr ((i+1)*2) D) (i*2) news) T fz):=by
 have hin:i≤n:=by omega
 have hz2: ¬((i:Int)=(n:Int)):=by omega
 have hb1:(0:Int)≤(i:Int)+1:=by omega
 have htn:((i:Int)+1).toNat=i+1:=by omega
 have hb2: ¬(c=i+1):=by omega
 have hb3:(i:Int)≤(n:Int)+1:=by omega
 have hb5:(i:Int)+1≤(n:Int)+1:=by omega
 have hb4: ¬(c=i):=by omega
 have hw1:IntKind.i64.wrap ((i:Int)+1)=(i:Int)+1:=by rw[IntKind.wrap_i64];omega
 have hD0:D.length=(n - i)*2:=by rw[hD];simp;omega
 have hn0:news.length=2:=by rw[hn];simp;omega
 have hfv:w.frozen? ⟨vb,0,none⟩=false:=by
  have:=hvf.1 0 (by omega)
  simp[World.frozen?,hv];omega
 have hfe:w.frozen? ⟨vb,arrv.size,none⟩=false:=by
  have:=hvf.2.resolve_left (by decide)
  simp[World.frozen?,hv];omega
 have hov: ∀lb cb,(callFunc 138 #[.slice (some ⟨vb,0,none⟩) 1 vc,.slice (some ⟨b,(i+1)*2,none⟩) lb cb]).run Tryz.prog w= .ok (.value (.bool false)) w:=fun lb cb=>by
  rw[run_callFunc_extern Tryz.func138 (by kernel_rfl) (by kernel_rfl) (by kernel_rfl) (e:=Extern.SlicesOverlaps.overlaps #[40,40] #[4]) (by kernel_rfl),
   Lib.run_overlaps_apart w 40 4 65 Tryz.underlying40 2 Tryz.sizeOf65 ⟨vb,0,none⟩ ⟨b,(i+1)*2,none⟩ 1 vc lb cb hvb Tv T arrv.size arr.size (by simp[World.shape?,hv]) (by simp[World.shape?,hh]) (by omega) hfv hfe]
  rfl
 have hinfo:(Tryz.prog.info? 65).map (·.size)=some 2:=by kernel_rfl
 have hDget: ∀(j:Nat) v,D[j]? =some v→j<(n - i)*2∧arr[i*2+j]? =some v:=fun j v e=>by
  have hj:j<(n - i)*2:=by rw[←hD0];exact(List.getElem?_eq_some_iff.1 e).1
  rw[hD,List.getElem?_take,if_pos hj,List.getElem?_drop,Array.getElem?_toList]at e
  exact⟨hj,e⟩
 have hcp1: ∀ty dc sc,(Builtin.copy_ #[40,40] ty #[.slice (some ⟨b,(i+1)*2,none⟩) (n - i) dc,.slice (some ⟨b,i*2,none⟩) (n+1 - i) sc]).run Tryz.prog w.drew= .ok (goInt (n - i:Nat)) (yD w.drew b (.cells (yA arr ((i+1)*2) D) T fz)):=fun ty dc sc=>
  zu1 Tryz.underlying40 hinfo (by simp only[Nat.min_def];split<;>omega) hD0 (fun j v e=>by
   obtain⟨_,e2⟩:=hDget j v e
   rw[Addr.add_lit];show w.cell? _=_;simpa[World.cell?,hh]using e2) hh hf (by rw[hD0];omega) h1D
 have hh2:(yD w.drew b (.cells (yA arr ((i+1)*2) D) T fz)).heap[b]? =some (.cells (yA arr ((i+1)*2) D) T fz):=xR _ _ _ (Array.getElem?_eq_some_iff.1 hh).1
 have hcp2: ∀(W:World),W.heap=(yD w.drew b (.cells (yA arr ((i+1)*2) D) T fz)).heap→ ∀ty dc,(Builtin.copy_ #[40,40] ty #[.slice (some ⟨b,i*2,none⟩) (n+1 - i) dc,.slice (some ⟨vb,0,none⟩) 1 vc]).run Tryz.prog W= .ok (goInt (1:Nat)) (yD W b (.cells (yA (yA arr ((i+1)*2) D) (i*2) news) T fz)):=fun W hW ty dc=>
  zu1 Tryz.underlying40 hinfo (by simp only[Nat.min_def];split<;>omega) (by rw[hn0]) (fun j v e=>by
   have hj:j<2:=by rw[←hn0];exact(List.getElem?_eq_some_iff.1 e).1
   rw[hn,List.getElem?_take,if_pos hj,Array.getElem?_toList]at e
   have e3:W.heap[vb]? =some (.cells arrv Tv fzv):=by rw[hW,wM _ _ _ _ hvb];exact hv
   rw[Addr.add_lit];simpa[World.cell?,e3]using e) (by rw[hW];exact hh2) (fun o ho=>hf o (by rw[yH]at ho;exact ho)) (by rw[yH,hn0];omega) h1n
 go_enter Tryz.func88,Tryz.ntmps88
 go_wp2_with (simp only[hov])
 go_region_law (refine zC1 rfl _ _ 40 40 rfl _ _ (by simp[Act.eval,Act.put]) (by simp[Act.eval,Act.put]) (hcp1 _ _ _) ?_)
 go_wp2_with (at_builtin;refine zw3 _ rfl _ _ 40 40 rfl _ _ rfl rfl (hcp2 _ rfl _ _) ?_)
 go_ret
 subst hD hn
 exact⟨rfl,rfl⟩
set_option maxHeartbeats 4000000 in
theorem yh8 (b c n:Nat) (arr:Array Value) (T:TypeId) (fz:Nat×Nat) (x:Value) (news:List Value) (w:World) (hroom:n+1≤c) (hn63:n≤9223372036854775806)
  (hh:w.heap[b]? =some (.cells arr T fz)) (hf:ze2 arr fz) (hsz:c*2≤arr.size) (va:Option Addr) (vc:Nat) (hx:x= .slice va 1 vc) (hsrc:Src Tryz.prog 2 40 x 1 news w):
  Calls Tryz.prog 88 #[.slice (some ⟨b,0,none⟩) n c,.int .i64 n,x] w fun e w'=>
   e= .returned (.slice (some ⟨b,0,none⟩) (n+1) c)∧w'=yD w b (.cells (yA arr (n*2) news) T fz):=by
 subst hx
 have hinfo:(Tryz.prog.info? 65).map (·.size)=some 2:=by kernel_rfl
 obtain⟨i0,hi0,hi1⟩: ∃i0,Tryz.prog.info? 65=some i0∧i0.size=2:=by
  cases h:Tryz.prog.info? 65 with
  |none=>simp[h]at hinfo
  |some i0=>exact⟨i0,rfl,by simpa[h]using hinfo⟩
 have hnl:=hsrc.newsLen
 have hr: ∀ty,(Builtin.append_ #[40,40] ty #[.slice (some ⟨b,0,none⟩) n c,.slice va 1 vc]).run Tryz.prog w= .ok (.slice (some ⟨b,0,none⟩) (n+1) c) (yD w b (.cells (yA arr (n*2) news) T fz)):=fun ty=>by
  have h:=ze6 (P:=Tryz.prog) (ty:=ty) (i:=i0) (o:=0) (n:=n) (cap:=c) (m:=1) Tryz.underlying40 hi0 (by rw[hi1];exact hsrc) hroom hh hf (by rw[hi1];omega)
  rw[hi1,Nat.zero_add]at h
  exact h
 go_enter Tryz.func88,Tryz.ntmps88
 go_wp2_with (at_builtin;refine Lib.wpList_append_run _ rfl _ _ _ _ rfl _ _ rfl rfl _ _ (hr _) ?_)
 go_ret
 exact⟨rfl,rfl⟩
set_option maxHeartbeats 4000000 in
theorem yh7 (base:Option Addr) (c n:Nat) (x:Value) (olds news:List Value) (w:World) (hroom:c<n+1) (hc63:n≤c) (hbig:(n+1)*32≤140737488355328)
  (hold:(Builtin.firstCells 2 n (.slice base n c)).run Tryz.prog w.drew= .ok olds.toArray w.drew) (hlo:olds.length=n*2) (va:Option Addr) (vc:Nat) (hx:x= .slice va 1 vc) (hsrc:Src Tryz.prog 2 40 x 1 news w):
  ∃(cap':Nat) (arr:Array Value),n+1≤cap'∧cap'*2≤arr.size∧arr.toList.take ((n+1)*2)=olds++news∧
  Calls Tryz.prog 88 #[.slice base n c,.int .i64 n,x] w fun e w'=>
   e= .returned (.slice (some ⟨w.heap.size,0,none⟩) (n+1) cap')∧w'=w.drew.alloc (.cells arr 65):=by
 subst hx
 have hinfo:(Tryz.prog.info? 65).map (fun i=>(i.zero.map (·.cells.size),i.size,i.bytes))=some (some 2,2,32):=by kernel_rfl
 obtain⟨i0,z,hi0,hz,hzs,hi1,hi2⟩: ∃i0 z,Tryz.prog.info? 65=some i0∧i0.zero=some z∧z.cells.size=2∧i0.size=2∧i0.bytes=32:=by
  cases h:Tryz.prog.info? 65 with
  |none=>simp[h]at hinfo
  |some i0=>
   simp only[h,Option.map_some,Option.some.injEq,Prod.mk.injEq,Option.map_eq_some_iff]at hinfo
   obtain⟨⟨z,hz,hzs⟩,h1,h2⟩:=hinfo
   exact⟨i0,z,rfl,hz,hzs,h1,h2⟩
 obtain⟨cap',arr,hge,hsz,htk,hr⟩:=zL0 (P:=Tryz.prog) (w:=w) (t:=40) (tx:=40) (ty:=40) (base:=base) (cap:=c) (n:=n) (k:=1) (y:= .slice va 1 vc) (olds:=olds) (news:=news) Tryz.underlying40 hi0 hz (by rw[hi1];exact hzs) (by rw[hi2];decide) (by rw[hi1];exact hold) (by rw[hi1];exact hlo) (by rw[hi1];exact hsrc) hroom (by rw[hi2];exact hbig)
 rw[hi1]at hsz htk
 refine⟨cap',arr,hge,hsz,htk, ?_⟩
 go_enter Tryz.func88,Tryz.ntmps88
 cases base with
 |none=>
  go_wp2_with (at_builtin;refine Lib.wpList_append_run _ rfl _ _ _ _ rfl _ _ rfl rfl _ _ hr ?_)
  go_ret
  exact⟨rfl,rfl⟩
 |some a=>
  go_wp2_with (at_builtin;refine Lib.wpList_append_run _ rfl _ _ _ _ rfl _ _ rfl rfl _ _ hr ?_)
  go_ret
  exact⟨rfl,rfl⟩
theorem zY1 (w:World) (o o':Go.Obj):yD (w.alloc o) w.heap.size o'=w.alloc o':=by
 show{w with heap:=(w.heap.push o).setIfInBounds w.heap.size o'}={w with heap:=w.heap.push o'}
 congr 1
 apply Array.ext_getElem?
 intro i
 rw[Array.getElem?_setIfInBounds,Array.getElem?_push,Array.getElem?_push]
 by_cases h:w.heap.size=i
 ·subst h;simp
 ·rw[if_neg h,if_neg (by omega),if_neg (by omega)]
set_option maxHeartbeats 4000000 in
theorem yW6 (b vb c vc n i:Nat) (arr arrv:Array Value) (T Tv:TypeId) (fz fzv:Nat×Nat) (news:List Value) (w:World) (hi:i<n) (hroom:c<n+1) (hnc:n≤c) (hbig:(n+1)*32≤140737488355328) (_hvb:vb≠b)
  (hh:w.heap[b]? =some (.cells arr T fz)) (hsz:c*2≤arr.size) (hv:w.heap[vb]? =some (.cells arrv Tv fzv)) (hvsz:2≤arrv.size)
  (hn:news=arrv.toList.take 2) (h1D: ∀v∈arr.toList.take (n*2),v.oneCell'=true) (h1n: ∀v∈news,v.oneCell'=true):
  ∃(cap':Nat) (arr':Array Value),n+1≤cap'∧cap'*2≤arr'.size∧arr'.toList.take ((n+1)*2)=arr.toList.take (i*2)++news++(arr.toList.take (n*2)).drop (i*2)∧
  Calls Tryz.prog 88 #[.slice (some ⟨b,0,none⟩) n c,.int .i64 i,.slice (some ⟨vb,0,none⟩) 1 vc] w fun e w'=>
   e= .returned (.slice (some ⟨w.heap.size,0,none⟩) (n+1) cap')∧w'=w.drew.drew.alloc (.cells arr' 65):=by
 have hinfo:(Tryz.prog.info? 65).map (fun i=>(i.zero.map (·.cells.size),i.size,i.bytes))=some (some 2,2,32):=by kernel_rfl
 have hinfo2:(Tryz.prog.info? 65).map (·.size)=some 2:=by kernel_rfl
 obtain⟨i0,z,hi0,hz,hzs,hi1,hi2⟩: ∃i0 z,Tryz.prog.info? 65=some i0∧i0.zero=some z∧z.cells.size=2∧i0.size=2∧i0.bytes=32:=by
  cases h:Tryz.prog.info? 65 with
  |none=>simp[h]at hinfo
  |some i0=>
   simp only[h,Option.map_some,Option.some.injEq,Prod.mk.injEq,Option.map_eq_some_iff]at hinfo
   obtain⟨⟨z,hz,hzs⟩,h1,h2⟩:=hinfo
   exact⟨i0,z,rfl,hz,hzs,h1,h2⟩
 have hn0:news.length=2:=by rw[hn];simp;omega
 have hi63:n≤4398046511103:=by omega
 have hz2: ¬((i:Int)=(n:Int)):=by omega
 have hz3:(c:Int)<(n:Int)+1:=by omega
 have hin:i≤n:=by omega
 have hw1:IntKind.i64.wrap ((i:Int)+1)=(i:Int)+1:=by rw[IntKind.wrap_i64];omega
 have hb1:(0:Int)≤(i:Int)+1:=by omega
 have htn:((i:Int)+1).toNat=i+1:=by omega
 have hb3:(i:Int)≤(n:Int):=by omega
 have hb5:(i:Int)≤(n:Int)+1:=by omega
 have hb6:(i:Int)+1≤(n:Int)+1:=by omega
 have hci: ¬(c=i):=by omega
 have hbw:b<w.heap.size:=(Array.getElem?_eq_some_iff.1 hh).1
 have hvw:vb<w.heap.size:=(Array.getElem?_eq_some_iff.1 hv).1
 have hkk:(n:Int)+1 - (i:Int)=((n+1 - i:Nat):Int):=by omega
 have hik:i+(n+1 - i)=n+1:=by omega
 obtain⟨D,hD⟩: ∃D,D=(arr.toList.take (n*2)).drop (i*2):=⟨_,rfl⟩
 have hD0:D.length=(n - i)*2:=by rw[hD];simp;omega
 have hold:(Builtin.firstCells i0.size i (.slice (some ⟨b,0,none⟩) i c)).run Tryz.prog w.drew= .ok (arr.toList.take (i*2)).toArray w.drew:=by
  rw[hi1]
  refine run_firstCells_some w.drew 2 i ⟨b,0,none⟩ i c (arr.toList.take (i*2)) (by simp;omega) (fun j v hj=> ?_)
  rw[Addr.add_lit]
  show w.cell? _=_
  have hj2:j<i*2:=by have:=(List.getElem?_eq_some_iff.1 hj).1;simp at this;omega
  rw[List.getElem?_take,if_pos hj2,Array.getElem?_toList]at hj
  simpa[World.cell?,hh]using hj
 have hcap:grownCap w (n+1) c 65=grownCap w (i+(n+1 - i)) c 65:=by rw[hik]
 have hGn:n+1≤grownCap w (n+1) c 65:=grownCap_ge w _ _ _
 have hrz: ∀ty,∃ROW:Array Value,grownCap w (n+1) c 65*2≤ROW.size∧ROW.toList.take (i*2)=arr.toList.take (i*2)∧(Builtin.append_ #[40,3] ty #[.slice (some ⟨b,0,none⟩) i c,.int .i64 ((n:Int)+1 - (i:Int))]).run Tryz.prog w=
   .ok (.slice (some ⟨w.heap.size,0,none⟩) (n+1) (grownCap w (n+1) c 65)) (w.drew.alloc (.cells ROW 65)):=fun ty=>by
  have h:=Lib.run_append_grow_zeros w 40 3 ty 65 i0 _ .i64 .i64 Tryz.underlying40 Tryz.underlying3 hi0 hz (some ⟨b,0,none⟩) i c (arr.toList.take (i*2)) hold (n+1 - i) (by omega) (by rw[hi1];decide) (by omega) (by omega) (by rw[hi2];omega) (by rw[hi2,hik];exact growslice_fits hroom hbig)
  rw[hik]at h
  rw[hkk]
  refine⟨_, ?_, ?_,h⟩
  ·simp only[Array.size_append,List.size_toArray,size_zeroCells,hzs,List.length_take,Array.length_toList]
   omega
  ·rw[Array.append_assoc,Array.toList_append,List.take_append_of_le_length (by simp;omega)]
   simp[List.take_take]
 have hGn':=hGn
 obtain⟨G,hG⟩: ∃G,G=grownCap w (n+1) c 65:=⟨_,rfl⟩
 have hG63:G≤9223372036854775807:=by
  have:=grownCap_le_maxLen w (n+1) c 65 (by unfold maxLen;omega)
  rw[←hG]at this
  unfold maxLen at this
  omega
 rw[←hG]at hrz hGn
 obtain⟨ROW,hR1,hR2,hrz⟩:=hrz 40
 obtain⟨W1,hW1⟩: ∃W1,W1=w.drew.alloc (.cells ROW 65):=⟨_,rfl⟩
 have hN1:W1.heap[w.heap.size]? =some (.cells ROW 65):=by rw[hW1];exact yJ w.drew _
 have hN2:W1.heap[b]? =some (.cells arr T fz):=by rw[hW1];exact(zh7 w.drew _ hbw).trans hh
 have hN3:W1.heap[vb]? =some (.cells arrv Tv fzv):=by rw[hW1];exact(zh7 w.drew _ hvw).trans hv
 have hf0: ∀A:Array Value,ze2 A (0,0):=fun A q _ hq=>by simp at hq
 have hcpA: ∀(W:World),W.heap=W1.heap→ ∀ty dc,(Builtin.copy_ #[40,40] ty #[.slice (some ⟨w.heap.size,i*2,none⟩) (n+1 - i) dc,.slice (some ⟨vb,0,none⟩) 1 vc]).run Tryz.prog W= .ok (goInt (1:Nat)) (yD W w.heap.size (.cells (yA ROW (i*2) news) 65 (0,0))):=fun W hW ty dc=>
  zu1 Tryz.underlying40 hinfo2 (by simp only[Nat.min_def];split<;>omega) (by rw[hn0]) (fun j v e=>by
   have hj:j<2:=by rw[←hn0];exact(List.getElem?_eq_some_iff.1 e).1
   rw[hn,List.getElem?_take,if_pos hj,Array.getElem?_toList]at e
   rw[Addr.add_lit];simpa[World.cell?,hW,hN3]using e) (by rw[hW];exact hN1) (hf0 _) (by rw[hn0];omega) h1n
 obtain⟨W2,hW2⟩: ∃W2,W2=yD W1 w.heap.size (.cells (yA ROW (i*2) news) 65 (0,0)):=⟨_,rfl⟩
 have hM1:W2.heap[w.heap.size]? =some (.cells (yA ROW (i*2) news) 65):=by rw[hW2];exact xR _ _ _ (Array.getElem?_eq_some_iff.1 hN1).1
 have hM2:W2.heap[b]? =some (.cells arr T fz):=by rw[hW2,wM _ _ _ _ (by omega)];exact hN2
 have hcpB: ∀(W:World),W.heap=W2.heap→ ∀ty dc sc,(Builtin.copy_ #[40,40] ty #[.slice (some ⟨w.heap.size,(i+1)*2,none⟩) (n - i) dc,.slice (some ⟨b,i*2,none⟩) (n - i) sc]).run Tryz.prog W= .ok (goInt (n - i:Nat)) (yD W w.heap.size (.cells (yA (yA ROW (i*2) news) ((i+1)*2) D) 65 (0,0))):=fun W hW ty dc sc=>
  zu1 Tryz.underlying40 hinfo2 (by simp only[Nat.min_def];split<;>omega) hD0 (fun j v e=>by
   have hj:j<(n - i)*2:=by rw[←hD0];exact(List.getElem?_eq_some_iff.1 e).1
   rw[hD,List.getElem?_drop,List.getElem?_take,if_pos (by omega),Array.getElem?_toList]at e
   rw[Addr.add_lit];simpa[World.cell?,hW,hM2]using e) (by rw[hW];exact hM1) (hf0 _) (by rw[yH,hD0];omega) (fun v hv2=>h1D v (List.mem_of_mem_drop (by rw[hD]at hv2;exact hv2)))
 refine⟨G,yA (yA ROW (i*2) news) ((i+1)*2) D,hGn,by rw[yH,yH];exact hR1, ?_, ?_⟩
 ·have hl1:(yA (yA ROW (i*2) news) ((i+1)*2) D).size=ROW.size:=by rw[yH,yH]
  refine List.ext_getElem? fun k=> ?_
  have hA:(arr.toList.take (i*2)).length=i*2:=by simp;omega
  by_cases hk:k<(n+1)*2
  ·rw[List.getElem?_take,if_pos hk,Array.getElem?_toList,wU _ _ _ _ (by rw[yH];omega),wU _ _ _ _ (by omega)]
   by_cases h1:(i+1)*2≤k
   ·rw[if_pos (by omega),List.getElem?_append_right (by simp only[List.length_append,hA,hn0];omega)]
    simp only[List.length_append,hA,hn0]
    congr 1;omega
   ·rw[if_neg (by omega),List.getElem?_append_left (by simp only[List.length_append,hA,hn0];omega)]
    by_cases h2:i*2≤k
    ·rw[if_pos (by omega),List.getElem?_append_right (by omega),hA]
    ·rw[if_neg (by omega),List.getElem?_append_left (by omega),←hR2,List.getElem?_take,if_pos (by omega),Array.getElem?_toList]
  ·rw[List.getElem?_eq_none (by simp;omega),List.getElem?_eq_none (by simp only[List.length_append,hA,hn0,←hD,hD0];omega)]
 rw[←hW1]at hrz
 have hfin:yD W2.drew w.heap.size (.cells (yA (yA ROW (i*2) news) ((i+1)*2) D) 65 (0,0))=w.drew.drew.alloc (.cells (yA (yA ROW (i*2) news) ((i+1)*2) D) 65):=by
  rw[hW2,hW1]
  have e1:=zY1 w.drew (.cells ROW 65) (.cells (yA ROW (i*2) news) 65 (0,0))
  have e0:w.drew.heap.size=w.heap.size:=rfl
  rw[e0]at e1
  rw[e1]
  exact zY1 w.drew.drew _ _
 have hGi: ¬(G=i):=by omega
 have hGim: ¬(G=i+1):=by omega
 clear hold hGn' hcap hkk hik hG hn hD
 subst hW2
 subst hW1
 have hE1:((w.alloc (.cells ROW 65)).drew).heap=(w.drew.alloc (.cells ROW 65)).heap:=rfl
 have hE2:((yD ((w.alloc (.cells ROW 65)).drew) w.heap.size (.cells (yA ROW (i*2) news) 65 (0,0))).drew).heap=(yD (w.drew.alloc (.cells ROW 65)) w.heap.size (.cells (yA ROW (i*2) news) 65 (0,0))).heap:=rfl
 go_enter Tryz.func88,Tryz.ntmps88
 go_wp2_with (first
  |(at_builtin;refine Lib.wpList_append_run _ rfl _ _ _ _ rfl _ _ rfl rfl _ _ hrz ?_)
  |(at_builtin;refine zw3 _ rfl _ _ 40 40 rfl _ _ rfl rfl (hcpA _ hE1 _ _) ?_))
 go_region_law (refine zC1 rfl _ _ 40 40 rfl (.slice (some ⟨w.heap.size,(i+1)*2,none⟩) (n - i) (G - (i+1))) (.slice (some ⟨b,i*2,none⟩) (n - i) (c - i)) (by simp[Act.eval,Act.put]) (by simp[Act.eval,Act.put]) (hcpB _ hE2 3 (G - (i+1)) (c - i)) ?_)
 go_wp2
 go_ret
 exact⟨rfl,hfin⟩
end Go.Proofs.YtajjjghohakniaaGreat
