/-
  PlanOnce returns true for every input, and each argument reads behind the call as it read before.
  Conditions: none.
-/
import Derived.Test.YtajjjghohakniaaGreatSBL
import Derived.Test.YtajjjghohakniaaGreatRows
import Derived.Test.YtajjjghohakniaaGreatSBI
import Derived.HandedShaped
namespace Go.Proofs.YtajjjghohakniaaGreat
open Go Go.Vx R
set_option maxRecDepth 100000
theorem bl_tot: ∀a b:List UInt8,Op.bytesLess a b=true∨a=b∨Op.bytesLess b a=true
 | [],[]=> .inr (.inl rfl)
 | [],_::_=> .inl rfl
 |_::_,[]=> .inr (.inr rfl)
 |x::a,y::b=>by
  rw[bl_cons,bl_cons]
  by_cases q:x.toNat<y.toNat
  ·rw[if_pos q];exact .inl rfl
  by_cases q2:y.toNat<x.toNat
  ·rw[if_neg q,if_pos q2,if_pos q2];exact .inr (.inr rfl)
  rw[if_neg q,if_neg q2,if_neg q2,if_neg q]
  have e:x=y:=UInt8.toNat_inj.1 (by omega)
  rcases bl_tot a b with h|h|h
  ·exact .inl h
  ·exact .inr (.inl (by rw[e,h]))
  ·exact .inr (.inr h)
structure UOk (U:US):Prop where
 asc:(U.map (·.1)).Pairwise (· < ·)
 spans: ∀y∈U,y.2≠ []∧y.2.Nodup∧ ∀x∈y.2,Op.bytesLess x.lo x.hi=true
def Has (U:US) (rng:Int) (x:GSpan):Prop:= ∃y∈U,y.1=rng∧x∈y.2
theorem add_facts {U:US} (h:UOk U) (rng:Int) (x:GSpan) (hx:Op.bytesLess x.lo x.hi=true):
  UOk (addF rng x U)∧Has (addF rng x U) rng x∧(∀r z,Has U r z→Has (addF rng x U) r z)∧(Has U rng x→addF rng x U=U):=by
 obtain⟨k,hk⟩: ∃k,lowF (U.map (·.1)) rng=k:=⟨_,rfl⟩
 obtain⟨hkl,hlo,hhi,hhas⟩:=low_facts h.asc hk
 cases hth:(U.map (·.1)).contains rng with
 |true=>
  rw[hth]at hhas
  have hkU:k<U.length:=by
   split at hhas
   ·rename_i h1;simpa using h1
   ·cases hhas
  rw[dif_pos (by simpa using hkU)]at hhas
  obtain⟨⟨r0,sp⟩,hU⟩: ∃y,U[k]=y:=⟨_,rfl⟩
  have hr0:r0=rng:=by
   have:(U.map (·.1))[k]'(by simpa using hkU)=r0:=by rw[List.getElem_map,hU]
   rw[this]at hhas
   simpa using hhas
  subst hr0
  have hUk:U[k]? =some (r0,sp):=by rw[List.getElem?_eq_getElem hkU,hU]
  have hmem:(r0,sp)∈U:=hU▸List.getElem_mem hkU
  have hsp:=h.spans _ hmem
  have uniq: ∀y∈U,y.1=r0→y=(r0,sp):=fun y hy hr=>by
   obtain⟨j,hj,rfl⟩:=List.getElem_of_mem hy
   have ha:=List.pairwise_iff_getElem.1 h.asc
   rcases Nat.lt_trichotomy j k with q|q|q
   ·have:=ha j k (by simpa using hj) (by simpa using hkU) q
    rw[List.getElem_map,List.getElem_map,hr,hU]at this
    exact absurd this (Int.lt_irrefl _)
   ·subst q;exact hU
   ·have:=ha k j (by simpa using hkU) (by simpa using hj) q
    rw[List.getElem_map,List.getElem_map,hr,hU]at this
    exact absurd this (Int.lt_irrefl _)
  cases hc:sp.contains x with
  |true=>
   have e:=addF_same hk hth hUk hc
   rw[e]
   exact⟨h,⟨_,hmem,rfl,by simpa using hc⟩,fun _ _ h=>h,fun _=>rfl⟩
  |false=>
   have e:=addF_app hk hth hUk hc
   have hnx:x∉sp:=by simpa using hc
   rw[e]
   refine⟨⟨?_,fun y hy=> ?_⟩,⟨(r0,sp++ [x]),List.mem_set hkU _,rfl,by simp⟩,fun r z hz=> ?_,fun hz=> ?_⟩
   ·have:(U.set k (r0,sp++ [x])).map (·.1)=U.map (·.1):=by
     rw[List.map_set]
     refine List.ext_getElem (by simp) fun j h1 h2=> ?_
     rw[List.getElem_set]
     split
     ·rename_i q;subst q;rw[List.getElem_map,hU]
     ·rfl
    rw[this];exact h.asc
   ·rcases List.mem_or_eq_of_mem_set hy with hy|rfl
    ·exact h.spans y hy
    ·refine⟨by simp, ?_,fun z hz=> ?_⟩
     ·simp only
      rw[List.nodup_append]
      exact⟨hsp.2.1,by simp,fun a ha b hb=>by rw[List.mem_singleton]at hb;subst hb;exact fun e=>hnx (e▸ha)⟩
     ·rcases List.mem_append.1 hz with hz|hz
      ·exact hsp.2.2 z hz
      ·rw[List.mem_singleton]at hz;subst hz;exact hx
   ·obtain⟨y,hy,hyr,hyz⟩:=hz
    by_cases q:y.1=r0
    ·have:=uniq y hy q
     subst this
     exact⟨(r0,sp++ [x]),List.mem_set hkU _,hyr,List.mem_append_left _ hyz⟩
    ·obtain⟨j,hj,hje⟩:=List.getElem_of_mem hy
     refine⟨y, ?_,hyr,hyz⟩
     have hjk:k≠j:=fun e=>by subst e;rw[hU]at hje;exact q (by rw[←hje])
     have:(U.set k (r0,sp++ [x]))[j]'(by simpa using hj)=y:=by rw[List.getElem_set,if_neg hjk];exact hje
     exact this▸List.getElem_mem _
   ·obtain⟨y,hy,hyr,hyz⟩:=hz
    have:=uniq y hy hyr
    subst this
    exact absurd hyz hnx
 |false=>
  have hno: ∀y∈U,y.1≠rng:=fun y hy hr=>by
   have:rng∈U.map (·.1):=List.mem_map.2 ⟨y,hy,hr⟩
   rw[←List.contains_iff_mem,hth]at this
   cases this
  have e:addF rng x U=U.take k++(rng,[x])::U.drop k:=by unfold addF;rw[if_neg (by rw[hth];exact Bool.false_ne_true),hk]
  have hin: ∀y∈U,y∈U.take k++(rng,[x])::U.drop k:=fun y hy=>by
   rw[←List.take_append_drop k U]at hy
   rcases List.mem_append.1 hy with hy|hy
   ·exact List.mem_append_left _ hy
   ·exact List.mem_append_right _ (List.mem_cons_of_mem _ hy)
  have hout: ∀y∈U.take k++(rng,[x])::U.drop k,y∈U∨y=(rng,[x]):=fun y hy=>by
   rcases List.mem_append.1 hy with hy|hy
   ·exact .inl (List.mem_of_mem_take hy)
   ·rcases List.mem_cons.1 hy with rfl|hy
    ·exact .inr rfl
    ·exact .inl (List.mem_of_mem_drop hy)
  rw[e]
  refine⟨⟨?_,fun y hy=> ?_⟩,⟨(rng,[x]),by simp,rfl,by simp⟩,fun r z ⟨y,hy,hyr,hyz⟩=>⟨y,hin y hy,hyr,hyz⟩,fun⟨y,hy,hyr,_⟩=>absurd hyr (hno y hy)⟩
  ·rw[List.map_append,List.map_cons,List.map_take,List.map_drop,List.pairwise_append]
   refine⟨h.asc.sublist (List.take_sublist _ _),List.pairwise_cons.2 ⟨fun b hb=> ?_,h.asc.sublist (List.drop_sublist _ _)⟩,fun a ha b hb=> ?_⟩
   ·obtain⟨j,hj,rfl⟩:=List.getElem_of_mem hb
    rw[List.getElem_drop]
    have h1:=hhi (k+j) (by rw[List.length_drop]at hj;omega) (by omega)
    have h2:(U.map (·.1))[k+j]'(by rw[List.length_drop]at hj;omega)≠rng:=fun e=>by
     rw[List.getElem_map]at e
     exact hno _ (List.getElem_mem _) e
    show rng<_
    omega
   ·obtain⟨j,hj,rfl⟩:=List.getElem_of_mem ha
    rw[List.length_take]at hj
    have h1:=hlo j (by omega) (by omega)
    rw[List.getElem_take]
    rcases List.mem_cons.1 hb with rfl|hb
    ·exact h1
    ·obtain⟨i,hi,rfl⟩:=List.getElem_of_mem hb
     rw[List.length_drop]at hi
     rw[List.getElem_drop]
     exact List.pairwise_iff_getElem.1 h.asc j (k+i) (by omega) (by omega) (by omega)
  ·rcases hout y hy with hy|rfl
   ·exact h.spans y hy
   ·exact⟨by simp,by simp,fun z hz=>by rw[List.mem_singleton]at hz;subst hz;exact hx⟩
def addAll (ps:List (Int×GSpan)) (U:US):US:=ps.foldl (fun U p=>needF p.1 p.2 U) U
def emptyS (x:GSpan):Bool:=Op.bytesLess x.hi x.lo||x.hi==x.lo
theorem need_facts {U:US} (h:UOk U) (rng:Int) (x:GSpan):
  UOk (needF rng x U)∧(emptyS x=true∨Has (needF rng x U) rng x)∧(∀r z,Has U r z→Has (needF rng x U) r z)∧(emptyS x=true∨Has U rng x→needF rng x U=U):=by
 unfold needF
 cases q:emptyS x with
 |true=>
  have q':(Op.bytesLess x.hi x.lo||x.hi==x.lo)=true:=q
  rw[if_pos q']
  exact⟨h,.inl rfl,fun _ _ h=>h,fun _=>rfl⟩
 |false=>
  have q':(Op.bytesLess x.hi x.lo||x.hi==x.lo)=false:=q
  rw[if_neg (by rw[q'];exact Bool.false_ne_true)]
  have hx:Op.bytesLess x.lo x.hi=true:=by
   rw[Bool.or_eq_false_iff]at q'
   rcases bl_tot x.lo x.hi with h|h|h
   ·exact h
   ·rw[h]at q';simp at q'
   ·rw[h]at q';simp at q'
  obtain⟨h1,h2,h3,h4⟩:=add_facts h rng x hx
  exact⟨h1,.inr h2,h3,fun h=>h4 (h.resolve_left (by simp))⟩
theorem all_facts: ∀(ps:List (Int×GSpan)) {U:US},UOk U→UOk (addAll ps U)∧(∀p∈ps,emptyS p.2=true∨Has (addAll ps U) p.1 p.2)∧(∀r z,Has U r z→Has (addAll ps U) r z)
 | [],_,h=>⟨h,fun p hp=>(by cases hp),fun _ _ h=>h⟩
 |p::ps,U,h=>by
  obtain⟨h1,h2,h3,_⟩:=need_facts h p.1 p.2
  obtain⟨g1,g2,g3⟩:=all_facts ps h1
  refine⟨g1,fun q hq=> ?_,fun r z hz=>g3 r z (h3 r z hz)⟩
  rcases List.mem_cons.1 hq with rfl|hq
  ·exact h2.imp id (g3 _ _)
  ·exact g2 q hq
theorem all_same: ∀(ps:List (Int×GSpan)) {U:US},UOk U→(∀p∈ps,emptyS p.2=true∨Has U p.1 p.2)→addAll ps U=U
 | [],_,_,_=>rfl
 |p::ps,U,h,hp=>by
  have e:=(need_facts h p.1 p.2).2.2.2 (hp p (List.mem_cons_self ..))
  show addAll ps (needF p.1 p.2 U)=U
  rw[e]
  exact all_same ps h fun q hq=>hp q (List.mem_cons_of_mem _ hq)
theorem uok_nil:UOk []:=⟨List.Pairwise.nil,fun y hy=>by cases hy⟩
def rowP (t:Int) (r:List GExpr):List (Int×GSpan):=
 match tabsS[t.toNat]? with
 |none=> []
 |some T=>
  if r.length≤T.key.toNat then []else
  if(evN (r.getD T.key.toNat zeroE)).2≠0∨(evN (r.getD T.key.toNat zeroE)).1.kind=0 then []else
  match regN T r with
  |none=> []
  |some g=>if(rangeS t g).2≠0 then []else [((rangeS t g).1,⟨boundF 3 t (evN (r.getD T.key.toNat zeroE)).1,boundF 3 t (evN (r.getD T.key.toNat zeroE)).1++ [0]⟩)]
theorem rowS_eq (t:Int) (r:List GExpr) (U:US):rowS t r U=addAll (rowP t r) U:=by
 unfold rowS rowP
 cases tabsS[t.toNat]? with
 |none=>rfl
 |some T=>
  simp only
  generalize evN (r.getD T.key.toNat zeroE)=kv
  by_cases a:r.length≤T.key.toNat
  ·rw[if_pos a,if_pos a];rfl
  rw[if_neg a,if_neg a]
  by_cases b:kv.2≠0∨kv.1.kind=0
  ·rw[if_pos b,if_pos b];rfl
  rw[if_neg b,if_neg b]
  cases regN T r with
  |none=>rfl
  |some g=>
   simp only
   by_cases d:(rangeS t g).2≠0
   ·rw[if_pos d,if_pos d];rfl
   ·rw[if_neg d,if_neg d];rfl
def stP (st:GStmt):List (Int×GSpan):=
 if tabOf st.table<0 then []else if st.kind=2 then st.rows.flatMap (rowP (tabOf st.table))
 else(regionsF (tabOf st.table) st).map fun rg=>((rangeS (tabOf st.table) rg).1,⟨(boundsF tabsS (tabOf st.table) st).1,(boundsF tabsS (tabOf st.table) st).2⟩)
theorem addAll_app (ps qs:List (Int×GSpan)) (U:US):addAll (ps++qs) U=addAll qs (addAll ps U):=List.foldl_append ..
theorem stepF_eq (U:US) (st:GStmt):stepF rowS U st=addAll (stP st) U:=by
 unfold stepF stP
 split
 ·rfl
 ·split
  ·have: ∀(rs:List (List GExpr)) (U:US),rs.foldl (fun U r=>rowS (tabOf st.table) r U) U=addAll (rs.flatMap (rowP (tabOf st.table))) U:=by
    intro rs
    induction rs with
    |nil=>intro U;rfl
    |cons r rs ih=>intro U;rw[List.foldl_cons,List.flatMap_cons,addAll_app,ih,rowS_eq]
   exact this _ _
  ·unfold addAll
   rw[List.foldl_map]
   rfl
theorem needs_eq: ∀(l:List GStmt) (U:US),l.foldl (stepF rowS) U=addAll (l.flatMap stP) U
 | [],_=>rfl
 |x::l,U=>by rw[List.foldl_cons,List.flatMap_cons,addAll_app,needs_eq l,stepF_eq]
theorem needsG_ok (l:GLot):UOk (needsG l):=by
 unfold needsG
 rw[needs_eq]
 exact(all_facts _ uok_nil).1
theorem needsG_twice (m n:Int) (l:List GStmt):needsG ⟨m,n,l++l⟩=needsG ⟨m,n,l⟩:=by
 unfold needsG
 simp only
 rw[needs_eq,needs_eq,List.flatMap_append,addAll_app]
 obtain⟨h1,h2,_⟩:=all_facts (l.flatMap stP) uok_nil
 exact all_same _ h1 h2
end Go.Proofs.YtajjjghohakniaaGreat
namespace Go.Proofs.YtajjjghohakniaaGreat
open Go Go.Vx R
set_option maxRecDepth 100000
theorem addAll_bd: ∀(ps:List (Int×GSpan)) {n:Nat} {U:US},Bd n U→Bd (n+ps.length) (addAll ps U)
 | [],_,_,h=>h
 |p::ps,n,U,h=>by
  have h1:=addAll_bd ps (Bd.need h p.1 p.2)
  rw[List.length_cons,show n+(ps.length+1)=n+1+ps.length by omega]
  exact h1
theorem rowP_len (t:Int) (r:List GExpr):(rowP t r).length≤1:=by
 unfold rowP
 repeat' split
 all_goals simp
theorem rowsP_len (t:Int): ∀rs:List (List GExpr),(rs.flatMap (rowP t)).length≤rs.length
 | []=>Nat.le_refl _
 |r::rs=>by
  rw[List.flatMap_cons,List.length_append,List.length_cons]
  have:=rowP_len t r
  have:=rowsP_len t rs
  omega
theorem stP_len {st:GStmt} (h:SOk st):(stP st).length≤20:=by
 unfold stP
 split
 ·simp
 ·split
  ·have:=rowsP_len (tabOf st.table) st.rows
   have:=h.rows.1
   omega
  ·rw[List.length_map]
   have:=regionsF_len (tabOf st.table) st
   omega
theorem needsG_bd (l:GLot) (hs: ∀st∈l.stmts,SOk st):Bd (20*l.stmts.length) (needsG l):=by
 have: ∀L:List GStmt,(∀st∈L,SOk st)→(L.flatMap stP).length≤20*L.length:=by
  intro L
  induction L with
  |nil=>intro _;exact Nat.le_refl _
  |cons x L ih=>
   intro h
   have h1:=ih (fun y hy=>h y (List.mem_cons_of_mem _ hy))
   have h2:=stP_len (h x (List.mem_cons_self ..))
   rw[List.flatMap_cons,List.length_append,List.length_cons]
   omega
 have h1:=this _ hs
 unfold needsG
 rw[needs_eq]
 have h2:=addAll_bd (l.stmts.flatMap stP) (n:=0) (U:= []) ⟨Nat.le_refl _,fun y hy=>by cases hy⟩
 exact⟨by have:=h2.1;omega,fun y hy=>by have:=h2.2 y hy;omega⟩
set_option maxHeartbeats 4000000 in
theorem once_w (s:List UInt8) (hs0:s.length≤maxLen):Pure Tryz.prog 7 [.str s] (.bool true):=by
 have hbg:=begun_w
 have hsc:=Schema_w
 have hlt:=Lot_w s hs0
 have hok:=parse_ok s
 have h8:=parse_8 s
 generalize (parseF s).1=l at hlt hok h8
 have hck:=planCheck_w l hok
 have hnd:=needsG_w l (by omega) hok.stmts.2
 have hnd2:=needsG_w ⟨l.mode,l.n,l.stmts++l.stmts⟩ (by simp;omega) (fun st hst=>hok.stmts.2 st (by simpa using hst))
 rw[needsG_twice]at hnd2
 have hU:=needsG_ok l
 have hBd:=needsG_bd l hok.stmts.2
 have hUl:needsG ⟨l.mode,l.n,l.stmts⟩=needsG l:=rfl
 rw[hUl]at hnd2
 generalize needsG l=U at hnd hnd2 hU hBd
 have hrow:GLot.row ⟨l.mode,l.n,l.stmts++l.stmts⟩= [.int .i64 l.mode,.int .i64 l.n,.sl .ro (l.stmts.map GStmt.row++l.stmts.map GStmt.row)]:=by simp[GLot.row]
 rw[hrow]at hnd2
 generalize planC l=ck at hck
 have ret: ∀(σ:St),wret (some (.bool true)) 0 (fun r s=>r= .bool true∧s= []) σ:=fun σ=>wret_0 (argS_no rfl) ⟨rfl,rfl⟩
 refine VCalls.introV 0 Tryz.func7 Tryz.ntmps7 Tryz.results7 rfl rfl (Nat.le_of_ble_eq_true rfl) fun c hc hb=> ?_
 refine wVW_code ?_
 simp[go_sem]
 refine wVC_pure hbg Tryz.callB8 (args_no rfl) rfl ?_
 simp[go_sem]
 refine wcond_i (fun q=> ?_) (fun q=> ?_)
 ·simp[go_sem]
  exact ret _
 simp[go_sem]
 refine wVC_pure hsc Tryz.callB10 (args_no rfl) rfl ?_
 simp[go_sem,schS]
 refine wVC_pure hlt Tryz.callB11 (args_no rfl) rfl ?_
 simp[go_sem]
 refine wVC_pure hck Tryz.callB13 ⟨schS_arg,argS_no rfl,trivial⟩ rfl ?_
 simp[go_sem,pairV]
 refine wcond_i (fun q2=> ?_) (fun q2=> ?_)
 ·simp[go_sem]
  exact ret _
 simp[go_sem]
 refine wVC_pure hnd Tryz.callB15 ⟨schS_arg,argS_no rfl,trivial⟩ rfl ?_
 simp[go_sem]
 have hUb:U.length≤1000∧ ∀y∈U,y.2.length≤1000:=⟨by have:=hBd.1;omega,fun y hy=>by have:=hBd.2 y hy;omega⟩
 refine wVW_while (S:=Nat) [3,4,7,8] (fun i=> [.ptr 0 0,.ptr 1 0,.sl .ro (U.map uRow),.int .i64 (i:Int)]) (fun _=> [.box [.sl .full regsS,.sl .full (tabsS.map GTable.row)],.box l.row]) (fun i=>U.length - i) (fun i=>i≤U.length) hc hb 0 (Nat.zero_le _) ?_ ?_
 ·exact at_n 2 (by simp[go_sem]) rfl (by simp[ltOb,ltC,ltK,GLot.row]) (Nat.zero_le _) (args_lt_eq (by simp[go_sem]) rfl)
 rintro i hi
 by_cases qi:i<U.length
 rotate_left
 ·refine wVW_code ?_
  simp[go_sem,qi]
  refine wcond_i (fun q4=> ?_) (fun q4=> ?_)
  ·simp[go_sem]
   exact ret _
  simp[go_sem]
  refine wdraw [(8,3),(11,3),(13,0)] 2 rfl (by kernel_rfl) (by kernel_rfl) ?_
  simp[go_sem]
  refine wneed_i ⟨by omega,fun _ h=>(by cases h),uni_map fun _=>rfl⟩ ?_
  simp[go_sem]
  refine wneed_i ⟨by omega,uni_map fun _=>rfl⟩ ?_
  simp[go_sem]
  refine wVD_pure hnd2 Tryz.callB15 (fun _=>⟨schS_arg,argS_agg ⟨argC_no rfl,argC_no rfl,argC_ro,trivial⟩,trivial⟩) rfl ?_
  have hll:((U.length:Int) !=(U.length:Int))=false:=by simp
  simp[go_sem,hll]
  refine wVW_while (S:=Nat) [7,11,12] (fun i=> [.sl .ro (U.map uRow),.sl .ro (U.map uRow),.int .i64 (i:Int)]) (fun _=> []) (fun i=>U.length - i) (fun i=>i≤U.length) hc hb 0 (Nat.zero_le _) ?_ ?_
  ·exact at_0 rfl (args_eq (by simp[go_sem]) rfl)
  rintro i hi
  by_cases qi:i<U.length
  rotate_left
  ·refine wVW_code ?_
   simp[go_sem,qi]
   exact ret _
  have ei:=i64_inc qi (by omega)
  obtain⟨⟨r,sp⟩,hy⟩: ∃y,U[i]=y:=⟨_,rfl⟩
  have hrr:(r !=r)=false:=by simp
  have hss:((sp.length:Int) !=(sp.length:Int))=false:=by simp
  refine wVW_code ?_
  simp[go_sem,qi]
  refine wdraw [] 0 rfl (by kernel_rfl) (by kernel_rfl) ?_
  simp[go_sem,qi,hy,hrr,hss,ei]
  exact next_i (i+1) ⟨by omega,qi,at_0 rfl (args_eq (by simp[go_sem]) rfl)⟩
 have ei:=i64_inc qi (by omega)
 obtain⟨⟨r,sp⟩,hy⟩: ∃y,U[i]=y:=⟨_,rfl⟩
 have hym:(r,sp)∈U:=hy▸List.getElem_mem qi
 obtain⟨y1,y2,y3⟩:=hU.spans _ hym
 have hspl:0<sp.length:=List.length_pos_iff.2 y1
 have hne:((sp.length:Int)==0)=false:=by simpa using (show ¬(sp.length:Int)=0 by omega)
 have hne2:(sp== [])=false:=by simpa using y1
 have hcase:decide (0<i)=false∨(decide (0<i)=true∧ ∃(j:Nat) (z:Int×List GSpan) (hj:j<U.length),IntKind.i64.wrap ((i:Int) - 1)=(j:Int)∧U[j]=z∧decide (r≤z.1)=false):=by
  by_cases h0:0<i
  ·refine .inr ⟨decide_eq_true h0,i - 1,U[i - 1],by omega, ?_,rfl, ?_⟩
   ·rw[Vx.i64_id (by omega) (by omega)];omega
   ·have:=List.pairwise_iff_getElem.1 hU.asc (i - 1) i (by simp;omega) (by simpa using qi) (by omega)
    rw[List.getElem_map,List.getElem_map,hy]at this
    exact decide_eq_false (by simp only at this⊢;omega)
  ·exact .inl (decide_eq_false h0)
 refine wVW_code ?_
 simp[go_sem,qi]
 refine wdraw [] 2 rfl (by kernel_rfl) (by kernel_rfl) ?_
 rcases hcase with h0|⟨h0,j,z,hj,e1,hz,hlt⟩
 case' inl=>simp[go_sem,h0,qi,hy,hne]
 case' inr=>simp[go_sem,h0,e1,hj,hz,qi,hy,hlt,hne]
 all_goals
  refine wVW_while (S:=Nat) [3,4,7,8,9] (fun k=> [.ptr 0 0,.ptr 1 0,.sl .ro (U.map uRow),.int .i64 (i:Int),.int .i64 (k:Int)]) (fun _=> [.box [.sl .full regsS,.sl .full (tabsS.map GTable.row)],.box l.row]) (fun k=>sp.length - k) (fun k=>k≤sp.length) hc hb 0 (Nat.zero_le _) ?_ ?_
  ·exact at_n 2 (by simp[go_sem]) rfl (by simp[ltOb,ltC,ltK,GLot.row]) (Nat.zero_le _) (args_lt_eq (by simp[go_sem]) rfl)
  intro k hk
  by_cases qk:k<sp.length
  rotate_left
  ·refine wVW_code ?_
   simp[go_sem,qi,hy,qk,ei]
   exact next_i (i+1) ⟨by omega,qi,at_n 2 (by simp[go_sem]) rfl (by simp[ltOb,ltC,ltK,GLot.row]) (Nat.zero_le _) (args_lt_eq (by simp[go_sem]) rfl)⟩
  have ek:=i64_inc qk (by have:=hUb.2 _ hym;simp only at this;omega)
  obtain⟨x,hx⟩: ∃x,sp[k]=x:=⟨_,rfl⟩
  have hxl:=y3 x (hx▸List.getElem_mem qk)
  refine wVW_code ?_
  simp[go_sem,qi,hy,qk]
  refine wdraw [] 2 rfl (by kernel_rfl) (by kernel_rfl) ?_
  simp[go_sem,qi,hy,qk,hx,hxl]
  refine wVW_while (S:=Nat) [3,4,7,8,9,10] (fun m=> [.ptr 0 0,.ptr 1 0,.sl .ro (U.map uRow),.int .i64 (i:Int),.int .i64 (k:Int),.int .i64 (m:Int)]) (fun _=> [.box [.sl .full regsS,.sl .full (tabsS.map GTable.row)],.box l.row]) (fun m=>k - m) (fun m=>m≤k) hc hb 0 (Nat.zero_le _) ?_ ?_
  ·exact at_n 2 (by simp[go_sem]) rfl (by simp[ltOb,ltC,ltK,GLot.row]) (Nat.zero_le _) (args_lt_eq (by simp[go_sem]) rfl)
  intro m hm
  by_cases qm:m<k
  rotate_left
  ·refine wVW_code ?_
   simp[go_sem,qm,ek]
   exact next_i (k+1) ⟨by omega,qk,at_n 2 (by simp[go_sem]) rfl (by simp[ltOb,ltC,ltK,GLot.row]) (Nat.zero_le _) (args_lt_eq (by simp[go_sem]) rfl)⟩
  have em:=i64_inc qm (by have:=hUb.2 _ hym;simp only at this;omega)
  have qm2:m<sp.length:=by omega
  obtain⟨w,hw⟩: ∃w,sp[m]=w:=⟨_,rfl⟩
  have hwx:(w.lo==x.lo&&w.hi==x.hi)=false:=by
   have h1:=List.pairwise_iff_getElem.1 y2 m k qm2 qk qm
   have h2:w≠x:=by rw[←hw,←hx];exact h1
   obtain⟨a,b⟩:=w
   obtain⟨a2,b2⟩:=x
   simp only[Bool.and_eq_false_iff,beq_eq_false_iff_ne]
   by_cases h3:a=a2
   ·exact .inr fun h4=>h2 (by rw[h3,h4])
   ·exact .inl h3
  refine wVW_code ?_
  simp[go_sem,qm]
  refine wdraw [] 2 rfl (by kernel_rfl) (by kernel_rfl) ?_
  simp[go_sem,qi,hy,qk,qm2,hx,hw,hwx,em]
  exact next_i (m+1) ⟨by omega,qm,at_n 2 (by simp[go_sem]) rfl (by simp[ltOb,ltC,ltK,GLot.row]) (Nat.zero_le _) (args_lt_eq (by simp[go_sem]) rfl)⟩
end Go.Proofs.YtajjjghohakniaaGreat
namespace Go.Proofs.YtajjjghohakniaaGreat
open Go Go.Vx
set_option maxRecDepth 100000
theorem planOnce_own:ownKnob Tryz.prog.godebug=none:=by kernel_rfl
theorem planOnce_laid:laidOutB Tryz.prog=true:=by kernel_rfl
theorem planOnce_all (xs:List V) (h:ShpA Tryz.prog [9] xs):VCalls Tryz.prog 7 xs [] fun r _=>r= .bool true:=by
 obtain⟨_,_,rfl,h0,h⟩:=h.cons_inv
 obtain rfl:=h.nil_inv
 obtain⟨x0,rfl,w0⟩:=h0.str_inv Tryz.underlying9
 rw[packT_one (by rw[Tryz.underlying9])]
 exact(once_w x0 w0).mono fun r s h=>h.1
theorem planOnce_glob {W:World} (hsh:W.ShapedOpen Tryz.prog):GlobOk W (lims W):=by
 refine⟨fun p hp=> ?_,fun p hp=> ?_⟩
 ·cases hp
 ·obtain rfl:p=(0,.i64):=by simpa[vints]using hp
  obtain⟨m,hm⟩:=Tryz.laysM144.s1_3 W hsh
  exact⟨lims_lt hm,m,hm⟩
theorem planOnce_lifted (os:Os) (started:os.Started) (H:Type) (enc:TypeId×Value→H):
  ReturnsInHanded {} Tryz.checked os 7 .any (Rows.planOnceSpec.pre6 enc Tryz.prog Tryz.f7 Rows.planOnceRow.domain false) (Rows.planOnceSpec.post enc Tryz.prog Tryz.f7 false true false false):=by
 refine returnsInHanded_of_change_shaped (C:=Tryz.checked) planOnce_own started (by kernel_rfl) Tryz.func7
  (ChangeSpec.witness6 (enc:=enc) (C:=Tryz.checked) false ⟨#[], #[.string ⟨#[]⟩],[]⟩ 8 (by kernel_rfl) (by kernel_rfl) (by kernel_rfl) (by kernel_rfl)) ?_
 intro W base args ds gs before hval hW _ _ hsh _
 exact law_true (P:=Tryz.prog) [9] [9] 4 Tryz.params7 (by kernel_rfl) Tryz.underlying4 (by kernel_rfl) (by kernel_rfl) (by kernel_rfl) planOnce_laid rfl
  (fun H ds h=>by
   match ds,h with
   | [_],_=>rfl) planOnce_all H enc W base args ds gs before hval hW (planOnce_glob hsh)
theorem planOnce_proved:Rows.PlanOnceSaid:=
 OpenClaim.holds_of_wide 7 Tryz.f7 rfl rfl rfl rfl rfl rfl rfl ⟨rfl,rfl,rfl,rfl,rfl⟩ rfl rfl rfl rfl rfl (by kernel_rfl) Tryz.func7 (by kernel_rfl)
  (of_decide_eq_true (by kernel_rfl)) (by unfold Func.isWrapper;first|(rw[if_pos (by decide+kernel)];kernel_rfl)|(rw[if_neg (by decide+kernel)];exact⟨rfl,rfl⟩))
  (fun os started H enc _=>planOnce_lifted os started H enc)
#print axioms planOnce_proved
end Go.Proofs.YtajjjghohakniaaGreat
