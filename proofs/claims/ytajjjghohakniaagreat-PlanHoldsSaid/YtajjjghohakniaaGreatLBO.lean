/-
  The document's span of keys and its regions are the program's (plain facts); used by the theorem at the end of the claim.
  Conditions: as each theorem states them.
-/
import Derived.Test.YtajjjghohakniaaGreatLBK
import Derived.Test.YtajjjghohakniaaGreatLBN
namespace Go.Proofs.YtajjjghohakniaaGreat
open Go Go.Vx R
set_option maxRecDepth 100000
def txA:List UInt8:= [83,69,76,69,67,84,32,42,32,70,82,79,77,32,84,32,87,72,69,82,69,32,75,32,62,61,32,51,32,65,78,68,32,75,32,60,32,53,32,65,78,68,32,82,32,61,32,49]
def txB:List UInt8:= [83,69,76,69,67,84,32,88,32,70,82,79,77,32,84]
def cutE (w:List UInt8) (name:List UInt8) (n:Int):GExpr:=opE w [namE name,valE ⟨2,n,[]⟩]
def whA:GExpr:=opE wAND [opE wAND [cutE [62,61] [75] 3,cutE [60] [75] 5],cutE [61] [82] 1]
def stA:GStmt:=⟨1,[84],[⟨1,zeroE⟩],[],[],true,whA,[],false,-1⟩
def stB:GStmt:=⟨1,[84],[⟨2,namE [88]⟩],[],[],false,zeroE,[],false,-1⟩
theorem xo8:zr8 txA=(⟨0,0,[stA]⟩,0,0):=by kernel_rfl
theorem xo9:zr8 txB=(⟨0,0,[stB]⟩,0,0):=by kernel_rfl
def yY6 (l:GLot):US:=l.stmts.foldl (zu2 fun _ _ U=>U) []
theorem xv9:zG6 ⟨0,0,[stA]⟩=(0,0):=by kernel_rfl
theorem xw0:zG6 ⟨0,0,[stB]⟩=(0,14):=by kernel_rfl
theorem xs2: ∃x:GSpan,yY6 ⟨0,0,[stA]⟩= [(1,[x])]:=⟨_,rfl⟩
theorem Bd.more {n:Nat} {U:US} (h:Bd n U):Bd (n+1) U:=⟨by have:=h.1;omega,fun y hy=>by have:=h.2 y hy;omega⟩
theorem yy6 (l:GLot) (hl:l.stmts.length≤12) (hk: ∀st∈l.stmts,st.kind≠2∧st.rows.length≤20) (hv: ∀st∈l.stmts,VOk st):Pure Tryz.prog 15 [schR tabsS,.agg l.row] (.sl .ro ((yY6 l).map uRow)):=by
 refine yD0 (fun _ _ U=>U) (fun _ _ _ _ h=>h.more) l (by unfold maxLen;omega) hv ?_ (fun st hst=>by have:=(hk st hst).2;unfold maxLen;omega) (fun st hst h2=>absurd h2 (hk st hst).1)
 have: ∀L:List GStmt,(∀st∈L,st.kind≠2)→(L.map cntF).sum=2*L.length:=by
  intro L
  induction L with
  |nil=>intro _;rfl
  |cons x L ih=>
   intro h
   rw[List.map_cons,List.sum_cons,ih (fun st hst=>h st (List.mem_cons_of_mem _ hst)),List.length_cons]
   have:cntF x=2:=by unfold cntF;rw[if_neg (h x (List.mem_cons_self ..))]
   omega
 rw[this _ (fun st hst=>(hk st hst).1)]
 omega
theorem xm6 {st:GStmt} (h:(zj4 st).all (fun e=>(e.args.all fun a=>decide (-9223372036854775808≤a.v.kind∧a.v.kind≤9223372036854775807∧ -9223372036854775808≤a.v.n∧a.v.n≤9223372036854775807∧a.v.s.length≤500)))=true):VOk st:=fun e he name s v ha=>by
 have h1:=List.all_eq_true.1 h e he
 have hin: ∃a∈e.args,a.v=v:=by
  unfold xS at ha
  split at ha
  ·rename_i a b heq hab
   rw[hab]
   split at ha
   ·split at ha
    ·cases ha;exact⟨a,by simp,rfl⟩
    ·cases ha
   ·split at ha
    ·cases ha;exact⟨b,by simp,rfl⟩
    ·cases ha
  ·cases ha
 obtain⟨a,ham,rfl⟩:=hin
 have h2:=List.all_eq_true.1 h1 a ham
 simp only[decide_eq_true_eq]at h2
 exact⟨⟨h2.1,h2.2.1⟩,⟨h2.2.2.1,h2.2.2.2.1⟩,by unfold maxLen;omega⟩
theorem yd9 {s:List UInt8} {l:GLot} {a b:Int} (h:zr8 s=(l,a,b)):LOk l:=by
 have:=yr9 s
 rw[h]at this
 exact this
set_option maxHeartbeats 1000000 in
theorem xg3:Pure Tryz.prog 8 [] (.bool true):=by
 have hla:=yR9 txA (by decide)
 have hlb:=yR9 txB (by decide)
 rw[xo8]at hla
 rw[xo9]at hlb
 have hca:=zB7 ⟨0,0,[stA]⟩ (yd9 xo8)
 have hcb:=zB7 ⟨0,0,[stB]⟩ (yd9 xo9)
 rw[xv9]at hca
 rw[xw0]at hcb
 have hn:=yy6 ⟨0,0,[stA]⟩ (by decide) (fun st hst=>by simp at hst;subst hst;exact⟨by decide,by decide⟩) (fun st hst=>by simp at hst;subst hst;exact xm6 (by kernel_rfl))
 obtain⟨x,hx⟩:=xs2
 rw[hx]at hn
 obtain⟨lA,hlA⟩: ∃l:GLot,l=⟨0,0,[stA]⟩:=⟨_,rfl⟩
 obtain⟨lB,hlB⟩: ∃l:GLot,l=⟨0,0,[stB]⟩:=⟨_,rfl⟩
 rw[←hlA]at hla hca hn
 rw[←hlB]at hlb hcb
 have hsc:=yl5
 refine VCalls.intro 0 Tryz.func8 Tryz.ntmps8 Tryz.results8 rfl rfl (Nat.le_of_ble_eq_true rfl) fun c hc hb=>zJ ?_
 simp[go_sem]
 refine zD hsc Tryz.callB10 (zG rfl) rfl ?_
 simp[go_sem,schS]
 refine zD hla Tryz.callB11 (zG rfl) rfl ?_
 simp[go_sem]
 refine zD hca Tryz.callB13 ⟨zs3,zA rfl,trivial⟩ rfl ?_
 simp[go_sem,yN]
 refine zD hn Tryz.callB15 ⟨zs3,zA rfl,trivial⟩ rfl ?_
 simp[go_sem]
 refine xC [(1,0),(2,0)] 2 (by simp) (by kernel_rfl) (by kernel_rfl) ?_
 simp[go_sem]
 refine zT hlb Tryz.callB11 (fun _=>zG rfl) rfl ?_
 simp[go_sem]
 refine zT hcb Tryz.callB13 (fun _=>⟨zs3,zA rfl,trivial⟩) rfl ?_
 simp[go_sem,yN]
 exact zQ (zA rfl) ⟨rfl,rfl⟩
end Go.Proofs.YtajjjghohakniaaGreat
namespace Go.Proofs.YtajjjghohakniaaGreat
open Go Go.Vx R
set_option maxRecDepth 100000
def zB5 (l:GLot):US:=l.stmts.foldl (zu2 rowS) []
theorem zU0: ∀(n:Nat) (q l:List GExpr),(∀e∈q,Good e)→(∀e∈l,Good e)→ ∀e∈bfs n q l,Good e
 |0,_,_,_,hl=>hl
 |n+1,[],_,_,hl=>by rw[bfs];exact hl
 |n+1,x::q,l,hq,hl=>by
  have hx:=hq x (List.mem_cons_self ..)
  have hq': ∀e∈q,Good e:=fun e he=>hq e (List.mem_cons_of_mem _ he)
  rw[bfs]
  split
  ·exact zU0 n _ _ (fun e he=>by
    rcases List.mem_append.1 he with he|he
    ·exact hq' e he
    ·exact hx.sub e he) hl
  ·exact zU0 n _ _ hq' (fun e he=>by
    rcases List.mem_append.1 he with he|he
    ·exact hl e he
    ·rw[List.mem_singleton]at he;subst he;exact hx)
theorem xd5 {st:GStmt} (h:Good st.where_):VOk st:=fun e he name s v ha=>by
 have hg:Good e:=by
  unfold zj4 at he
  split at he
  ·exact zU0 4096 [st.where_] [] (fun e he=>by rw[List.mem_singleton]at he;subst he;exact h) (fun e he=>by cases he) e he
  ·cases he
 have hin: ∃a∈e.args,a.v=v:=by
  unfold xS at ha
  split at ha
  ·rename_i a b heq hab
   rw[hab]
   split at ha
   ·split at ha
    ·cases ha;exact⟨a,by simp,rfl⟩
    ·cases ha
   ·split at ha
    ·cases ha;exact⟨b,by simp,rfl⟩
    ·cases ha
  ·cases ha
 obtain⟨a,ham,rfl⟩:=hin
 exact(hg.sub a ham).v
theorem yY7 (l:GLot) (hl:l.stmts.length≤24) (hs: ∀st∈l.stmts,SOk st):Pure Tryz.prog 15 [schR tabsS,.agg l.row] (.sl .ro ((zB5 l).map uRow)):=by
 refine yD0 rowS (fun t r n U h=>xl1 t r n U h) l (by unfold maxLen;omega) (fun st hst=>xd5 (hs st hst).where_.good) ?_ (fun st hst=>by have:=(hs st hst).rows.1;unfold maxLen;omega) (fun st hst hk ht=> ?_)
 ·have: ∀L:List GStmt,(∀st∈L,SOk st)→(L.map cntF).sum≤20*L.length:=by
   intro L
   induction L with
   |nil=>intro _;exact Nat.le_refl _
   |cons x L ih=>
    intro h
    have h1:=ih (fun st hst=>h st (List.mem_cons_of_mem _ hst))
    have h2:=(h x (List.mem_cons_self ..)).rows.1
    rw[List.map_cons,List.sum_cons,List.length_cons]
    have:cntF x≤20:=by unfold cntF;split<;>omega
    omega
  have:=this _ hs
  omega
 ·intro r hr N A hN hB
  obtain⟨hr1,hr2⟩:=(hs st hst).rows.2 r hr
  have htc:=zC2 st.table
  obtain⟨tn,htn⟩: ∃tn:Nat,wA st.table=(tn:Int):=⟨(wA st.table).toNat,by omega⟩
  rw[htn]at htc⊢
  have htl:tn<tabsS.length:=by show tn<3;omega
  exact xw3 tn _ (List.getElem?_eq_getElem htl) r (by omega) hr2 N A hN hB
end Go.Proofs.YtajjjghohakniaaGreat
namespace Go.Proofs.YtajjjghohakniaaGreat
open Go Go.Vx R
set_option maxRecDepth 100000
theorem yT0: ∀a b:List UInt8,Op.bytesLess a b=true∨a=b∨Op.bytesLess b a=true
 | [],[]=> .inr (.inl rfl)
 | [],_::_=> .inl rfl
 |_::_,[]=> .inr (.inr rfl)
 |x::a,y::b=>by
  rw[za3,za3]
  by_cases q:x.toNat<y.toNat
  ·rw[if_pos q];exact .inl rfl
  by_cases q2:y.toNat<x.toNat
  ·rw[if_neg q,if_pos q2,if_pos q2];exact .inr (.inr rfl)
  rw[if_neg q,if_neg q2,if_neg q2,if_neg q]
  have e:x=y:=UInt8.toNat_inj.1 (by omega)
  rcases yT0 a b with h|h|h
  ·exact .inl h
  ·exact .inr (.inl (by rw[e,h]))
  ·exact .inr (.inr h)
structure UOk (U:US):Prop where
 asc:(U.map (·.1)).Pairwise (· < ·)
 spans: ∀y∈U,y.2≠ []∧y.2.Nodup∧ ∀x∈y.2,Op.bytesLess x.lo x.hi=true
def Has (U:US) (rng:Int) (x:GSpan):Prop:= ∃y∈U,y.1=rng∧x∈y.2
theorem yK6 {U:US} (h:UOk U) (rng:Int) (x:GSpan) (hx:Op.bytesLess x.lo x.hi=true):
  UOk (addF rng x U)∧Has (addF rng x U) rng x∧(∀r z,Has U r z→Has (addF rng x U) r z)∧(Has U rng x→addF rng x U=U):=by
 obtain⟨k,hk⟩: ∃k,lowF (U.map (·.1)) rng=k:=⟨_,rfl⟩
 obtain⟨hkl,hlo,hhi,hhas⟩:=yd2 h.asc hk
 cases hth:(U.map (·.1)).contains rng with
 |true=>
  rw[hth]at hhas
  have hkU:k<U.length:=by
   split at hhas
   ·rename_i h1;simpa using h1
   ·cases hhas
  rw[dif_pos (by simpa using hkU)]at hhas
  obtain⟨⟨r0,sp⟩,hU⟩: ∃y,U[k]=y:=⟨_,rfl⟩
  have hr0:r0=rng:=by
   have:(U.map (·.1))[k]'(by simpa using hkU)=r0:=by rw[List.getElem_map,hU]
   rw[this]at hhas
   simpa using hhas
  subst hr0
  have hUk:U[k]? =some (r0,sp):=by rw[List.getElem?_eq_getElem hkU,hU]
  have hmem:(r0,sp)∈U:=hU▸List.getElem_mem hkU
  have hsp:=h.spans _ hmem
  have uniq: ∀y∈U,y.1=r0→y=(r0,sp):=fun y hy hr=>by
   obtain⟨j,hj,rfl⟩:=List.getElem_of_mem hy
   have ha:=List.pairwise_iff_getElem.1 h.asc
   rcases Nat.lt_trichotomy j k with q|q|q
   ·have:=ha j k (by simpa using hj) (by simpa using hkU) q
    rw[List.getElem_map,List.getElem_map,hr,hU]at this
    exact absurd this (Int.lt_irrefl _)
   ·subst q;exact hU
   ·have:=ha k j (by simpa using hkU) (by simpa using hj) q
    rw[List.getElem_map,List.getElem_map,hr,hU]at this
    exact absurd this (Int.lt_irrefl _)
  cases hc:sp.contains x with
  |true=>
   have e:=ya7 hk hth hUk hc
   rw[e]
   exact⟨h,⟨_,hmem,rfl,by simpa using hc⟩,fun _ _ h=>h,fun _=>rfl⟩
  |false=>
   have e:=yl6 hk hth hUk hc
   have hnx:x∉sp:=by simpa using hc
   rw[e]
   refine⟨⟨?_,fun y hy=> ?_⟩,⟨(r0,sp++ [x]),List.mem_set hkU _,rfl,by simp⟩,fun r z hz=> ?_,fun hz=> ?_⟩
   ·have:(U.set k (r0,sp++ [x])).map (·.1)=U.map (·.1):=by
     rw[List.map_set]
     refine List.ext_getElem (by simp) fun j h1 h2=> ?_
     rw[List.getElem_set]
     split
     ·rename_i q;subst q;rw[List.getElem_map,hU]
     ·rfl
    rw[this];exact h.asc
   ·rcases List.mem_or_eq_of_mem_set hy with hy|rfl
    ·exact h.spans y hy
    ·refine⟨by simp, ?_,fun z hz=> ?_⟩
     ·simp only
      rw[List.nodup_append]
      exact⟨hsp.2.1,by simp,fun a ha b hb=>by rw[List.mem_singleton]at hb;subst hb;exact fun e=>hnx (e▸ha)⟩
     ·rcases List.mem_append.1 hz with hz|hz
      ·exact hsp.2.2 z hz
      ·rw[List.mem_singleton]at hz;subst hz;exact hx
   ·obtain⟨y,hy,hyr,hyz⟩:=hz
    by_cases q:y.1=r0
    ·have:=uniq y hy q
     subst this
     exact⟨(r0,sp++ [x]),List.mem_set hkU _,hyr,List.mem_append_left _ hyz⟩
    ·obtain⟨j,hj,hje⟩:=List.getElem_of_mem hy
     refine⟨y, ?_,hyr,hyz⟩
     have hjk:k≠j:=fun e=>by subst e;rw[hU]at hje;exact q (by rw[←hje])
     have:(U.set k (r0,sp++ [x]))[j]'(by simpa using hj)=y:=by rw[List.getElem_set,if_neg hjk];exact hje
     exact this▸List.getElem_mem _
   ·obtain⟨y,hy,hyr,hyz⟩:=hz
    have:=uniq y hy hyr
    subst this
    exact absurd hyz hnx
 |false=>
  have hno: ∀y∈U,y.1≠rng:=fun y hy hr=>by
   have:rng∈U.map (·.1):=List.mem_map.2 ⟨y,hy,hr⟩
   rw[←List.contains_iff_mem,hth]at this
   cases this
  have e:addF rng x U=U.take k++(rng,[x])::U.drop k:=by unfold addF;rw[if_neg (by rw[hth];exact Bool.false_ne_true),hk]
  have hin: ∀y∈U,y∈U.take k++(rng,[x])::U.drop k:=fun y hy=>by
   rw[←List.take_append_drop k U]at hy
   rcases List.mem_append.1 hy with hy|hy
   ·exact List.mem_append_left _ hy
   ·exact List.mem_append_right _ (List.mem_cons_of_mem _ hy)
  have hout: ∀y∈U.take k++(rng,[x])::U.drop k,y∈U∨y=(rng,[x]):=fun y hy=>by
   rcases List.mem_append.1 hy with hy|hy
   ·exact .inl (List.mem_of_mem_take hy)
   ·rcases List.mem_cons.1 hy with rfl|hy
    ·exact .inr rfl
    ·exact .inl (List.mem_of_mem_drop hy)
  rw[e]
  refine⟨⟨?_,fun y hy=> ?_⟩,⟨(rng,[x]),by simp,rfl,by simp⟩,fun r z ⟨y,hy,hyr,hyz⟩=>⟨y,hin y hy,hyr,hyz⟩,fun⟨y,hy,hyr,_⟩=>absurd hyr (hno y hy)⟩
  ·rw[List.map_append,List.map_cons,List.map_take,List.map_drop,List.pairwise_append]
   refine⟨h.asc.sublist (List.take_sublist _ _),List.pairwise_cons.2 ⟨fun b hb=> ?_,h.asc.sublist (List.drop_sublist _ _)⟩,fun a ha b hb=> ?_⟩
   ·obtain⟨j,hj,rfl⟩:=List.getElem_of_mem hb
    rw[List.getElem_drop]
    have h1:=hhi (k+j) (by rw[List.length_drop]at hj;omega) (by omega)
    have h2:(U.map (·.1))[k+j]'(by rw[List.length_drop]at hj;omega)≠rng:=fun e=>by
     rw[List.getElem_map]at e
     exact hno _ (List.getElem_mem _) e
    show rng<_
    omega
   ·obtain⟨j,hj,rfl⟩:=List.getElem_of_mem ha
    rw[List.length_take]at hj
    have h1:=hlo j (by omega) (by omega)
    rw[List.getElem_take]
    rcases List.mem_cons.1 hb with rfl|hb
    ·exact h1
    ·obtain⟨i,hi,rfl⟩:=List.getElem_of_mem hb
     rw[List.length_drop]at hi
     rw[List.getElem_drop]
     exact List.pairwise_iff_getElem.1 h.asc j (k+i) (by omega) (by omega) (by omega)
  ·rcases hout y hy with hy|rfl
   ·exact h.spans y hy
   ·exact⟨by simp,by simp,fun z hz=>by rw[List.mem_singleton]at hz;subst hz;exact hx⟩
def zl5 (ps:List (Int×GSpan)) (U:US):US:=ps.foldl (fun U p=>zt8 p.1 p.2 U) U
def zM8 (x:GSpan):Bool:=Op.bytesLess x.hi x.lo||x.hi==x.lo
theorem yy4 {U:US} (h:UOk U) (rng:Int) (x:GSpan):
  UOk (zt8 rng x U)∧(zM8 x=true∨Has (zt8 rng x U) rng x)∧(∀r z,Has U r z→Has (zt8 rng x U) r z)∧(zM8 x=true∨Has U rng x→zt8 rng x U=U):=by
 unfold zt8
 cases q:zM8 x with
 |true=>
  have q':(Op.bytesLess x.hi x.lo||x.hi==x.lo)=true:=q
  rw[if_pos q']
  exact⟨h,.inl rfl,fun _ _ h=>h,fun _=>rfl⟩
 |false=>
  have q':(Op.bytesLess x.hi x.lo||x.hi==x.lo)=false:=q
  rw[if_neg (by rw[q'];exact Bool.false_ne_true)]
  have hx:Op.bytesLess x.lo x.hi=true:=by
   rw[Bool.or_eq_false_iff]at q'
   rcases yT0 x.lo x.hi with h|h|h
   ·exact h
   ·rw[h]at q';simp at q'
   ·rw[h]at q';simp at q'
  obtain⟨h1,h2,h3,h4⟩:=yK6 h rng x hx
  exact⟨h1,.inr h2,h3,fun h=>h4 (h.resolve_left (by simp))⟩
theorem ya9: ∀(ps:List (Int×GSpan)) {U:US},UOk U→UOk (zl5 ps U)∧(∀p∈ps,zM8 p.2=true∨Has (zl5 ps U) p.1 p.2)∧(∀r z,Has U r z→Has (zl5 ps U) r z)
 | [],_,h=>⟨h,fun p hp=>(by cases hp),fun _ _ h=>h⟩
 |p::ps,U,h=>by
  obtain⟨h1,h2,h3,_⟩:=yy4 h p.1 p.2
  obtain⟨g1,g2,g3⟩:=ya9 ps h1
  refine⟨g1,fun q hq=> ?_,fun r z hz=>g3 r z (h3 r z hz)⟩
  rcases List.mem_cons.1 hq with rfl|hq
  ·exact h2.imp id (g3 _ _)
  ·exact g2 q hq
theorem xm5:UOk []:=⟨List.Pairwise.nil,fun y hy=>by cases hy⟩
def rowP (t:Int) (r:List GExpr):List (Int×GSpan):=
 match tabsS[t.toNat]? with
 |none=> []
 |some T=>
  if r.length≤T.key.toNat then []else
  if(evN (r.getD T.key.toNat zeroE)).2≠0∨(evN (r.getD T.key.toNat zeroE)).1.kind=0 then []else
  match regN T r with
  |none=> []
  |some g=>if(zb8 t g).2≠0 then []else [((zb8 t g).1,⟨yY 3 t (evN (r.getD T.key.toNat zeroE)).1,yY 3 t (evN (r.getD T.key.toNat zeroE)).1++ [0]⟩)]
theorem xl2 (t:Int) (r:List GExpr) (U:US):rowS t r U=zl5 (rowP t r) U:=by
 unfold rowS rowP
 cases tabsS[t.toNat]? with
 |none=>rfl
 |some T=>
  simp only
  generalize evN (r.getD T.key.toNat zeroE)=kv
  by_cases a:r.length≤T.key.toNat
  ·rw[if_pos a,if_pos a];rfl
  rw[if_neg a,if_neg a]
  by_cases b:kv.2≠0∨kv.1.kind=0
  ·rw[if_pos b,if_pos b];rfl
  rw[if_neg b,if_neg b]
  cases regN T r with
  |none=>rfl
  |some g=>
   simp only
   by_cases d:(zb8 t g).2≠0
   ·rw[if_pos d,if_pos d];rfl
   ·rw[if_neg d,if_neg d];rfl
def stP (st:GStmt):List (Int×GSpan):=
 if wA st.table<0 then []else if st.kind=2 then st.rows.flatMap (rowP (wA st.table))
 else(zc6 (wA st.table) st).map fun rg=>((zb8 (wA st.table) rg).1,⟨(zg7 tabsS (wA st.table) st).1,(zg7 tabsS (wA st.table) st).2⟩)
theorem zT7 (ps qs:List (Int×GSpan)) (U:US):zl5 (ps++qs) U=zl5 qs (zl5 ps U):=List.foldl_append ..
theorem xc7 (U:US) (st:GStmt):zu2 rowS U st=zl5 (stP st) U:=by
 unfold zu2 stP
 split
 ·rfl
 ·split
  ·have: ∀(rs:List (List GExpr)) (U:US),rs.foldl (fun U r=>rowS (wA st.table) r U) U=zl5 (rs.flatMap (rowP (wA st.table))) U:=by
    intro rs
    induction rs with
    |nil=>intro U;rfl
    |cons r rs ih=>intro U;rw[List.foldl_cons,List.flatMap_cons,zT7,ih,xl2]
   exact this _ _
  ·unfold zl5
   rw[List.foldl_map]
   rfl
theorem zW5: ∀(l:List GStmt) (U:US),l.foldl (zu2 rowS) U=zl5 (l.flatMap stP) U
 | [],_=>rfl
 |x::l,U=>by rw[List.foldl_cons,List.flatMap_cons,zT7,zW5 l,xc7]
end Go.Proofs.YtajjjghohakniaaGreat
namespace Go.Proofs.YtajjjghohakniaaGreat
open Go Go.Vx R
set_option maxRecDepth 100000
def ofS4 (st:GStmt):List GCut:=ofF 4000 st
end Go.Proofs.YtajjjghohakniaaGreat
namespace Go.Proofs.YtajjjghohakniaaGreat
open Go Go.Vx R
set_option maxRecDepth 100000
theorem zr1 {α β:Type} {f g:α→List β}: ∀{l:List α},(∀x∈l,f x=g x)→l.flatMap f=l.flatMap g
 | [],_=>rfl
 |x::l,h=>by rw[List.flatMap_cons,List.flatMap_cons,h x (List.mem_cons_self ..),zr1 fun y hy=>h y (List.mem_cons_of_mem _ hy)]
theorem zK1: ∀(d:Nat) (e:GExpr),xA e≤d→zb0 (d+1) e=zb0 d e
 |0,e,h=>by have:=zg8 e;omega
 |d+1,e,h=>by
  rw[zb0,zb0]
  by_cases q:zv5 e=true
  ·rw[if_pos q,if_pos q]
   have hde:=wV e
   refine zr1 fun x hx=>zK1 d x ?_
   have:=xX e.args x hx
   omega
  ·rw[if_neg q,if_neg q]
theorem yp5 {d:Nat} {e:GExpr} (h:xA e≤d) (q:zv5 e=true):zb0 d e=e.args.flatMap (zb0 d):=by
 match d,h with
 |0,h=>have:=zg8 e;omega
 |d+1,h=>
  rw[zb0,if_pos q]
  have hde:=wV e
  refine zr1 fun x hx=>(zK1 d x ?_).symm
  have:=xX e.args x hx
  omega
theorem yx5 {d:Nat} {e:GExpr} (q: ¬zv5 e=true):zb0 d e= [e]:=by
 cases d with
 |zero=>rfl
 |succ d=>rw[zb0,if_neg q]
theorem zY3: ∀a b:List GExpr,xZ (a++b)=xZ a+xZ b
 | [],b=>by simp[xZ]
 |x::a,b=>by
  have:=zY3 a b
  simp only[List.cons_append,xZ]at this⊢
  omega
theorem zU1 (d:Nat): ∀(n:Nat) (q l:List GExpr),xZ q≤n→(∀e∈q,xA e≤d)→(bfs n q l).Perm (l++q.flatMap (zb0 d))
 |0,[],l,_,_=>by rw[bfs];simp
 |0,e::q,l,h,_=>by
  have:=zE7 e
  simp only[xZ]at h;omega
 |n+1,[],l,_,_=>by rw[bfs];simp
 |n+1,e::q,l,h,hd=>by
  have hs:zg4 e+xZ q≤n+1:=by simpa only[xZ]using h
  have hp:=zE7 e
  have hse:=zs5 e
  have hde:=hd e (List.mem_cons_self ..)
  have hdq: ∀x∈q,xA x≤d:=fun x hx=>hd x (List.mem_cons_of_mem _ hx)
  rw[bfs,List.flatMap_cons]
  by_cases w:zv5 e=true
  ·rw[if_pos w]
   have hda: ∀x∈e.args,xA x≤d:=fun x hx=>by
    have h1:=wV e
    have h2:=xX e.args x hx
    omega
   refine(zU1 d n (q++e.args) l (by rw[zY3];omega) (fun x hx=>(List.mem_append.1 hx).elim (hdq x) (hda x))).trans ?_
   rw[yp5 hde w,List.flatMap_append]
   exact List.Perm.append_left l List.perm_append_comm
  ·rw[if_neg w]
   refine(zU1 d n q (l++ [e]) (by omega) hdq).trans ?_
   rw[yx5 w,List.append_assoc]
theorem yb5 {st:GStmt} (hs:SOk st):(zj4 st).Perm (if st.filtered=true then zb0 4000 st.where_ else []):=by
 unfold zj4
 split
 ·have:=zU1 4000 4096 [st.where_] [] (by have:=hs.where_.size;simp only[xZ];omega) (fun e he=>by rw[List.mem_singleton]at he;subst he;exact zD6 4000 _ hs.where_.size)
  simpa using this
 ·exact List.Perm.refl _
theorem yH3 (st:GStmt):ofS4 st=(if st.filtered=true then zb0 4000 st.where_ else []).flatMap zo9:=by
 unfold ofS4 ofF xn9
 split<;>rfl
theorem zw8 {a b:List UInt8} (h:Op.bytesLess a b=true):Op.bytesLess b a=false:=by
 cases q:Op.bytesLess b a with
 |false=>rfl
 |true=>exact absurd (zh6 _ _ _ h q) (by rw[zg6];decide)
theorem yd3 (x y:List UInt8):maxS x y=maxS y x:=by
 unfold maxS
 rcases zn1 x y with h|h|h
 ·rw[if_pos h,if_neg (by rw[zw8 h];decide)]
 ·rw[h]
 ·rw[if_pos h,if_neg (by rw[zw8 h];decide)]
theorem yO3 (x y:List UInt8):minS x y=minS y x:=by
 unfold minS
 rcases zn1 x y with h|h|h
 ·rw[if_pos (.inl h),if_neg (fun g=>g.elim (fun g=>by rw[zw8 h]at g;cases g) (fun g=>by rw[g,zg6]at h;cases h))]
 ·rw[h]
 ·rw[if_neg (fun g=>g.elim (fun g=>by rw[zw8 h]at g;cases g) (fun g=>by rw[g,zg6]at h;cases h)),if_pos (.inl h)]
theorem xj2 (x a b:List UInt8):maxS (maxS x a) b=maxS (maxS x b) a:=by
 by_cases h1:Op.bytesLess x a=true<;>by_cases h2:Op.bytesLess x b=true
 ·rw[show maxS x a=a by unfold maxS;rw[if_pos h1],show maxS x b=b by unfold maxS;rw[if_pos h2]]
  exact yd3 a b
 ·rw[show maxS x a=a by unfold maxS;rw[if_pos h1],show maxS x b=x by unfold maxS;rw[if_neg h2],show maxS x a=a by unfold maxS;rw[if_pos h1]]
  unfold maxS
  rw[if_neg (fun g=>h2 (zh6 _ _ _ h1 g))]
 ·rw[show maxS x a=x by unfold maxS;rw[if_neg h1],show maxS x b=b by unfold maxS;rw[if_pos h2]]
  unfold maxS
  rw[if_neg (fun g=>h1 (zh6 _ _ _ h2 g))]
 ·rw[show maxS x a=x by unfold maxS;rw[if_neg h1],show maxS x b=x by unfold maxS;rw[if_neg h2],show maxS x a=x by unfold maxS;rw[if_neg h1]]
theorem zH8 {x a:List UInt8} (h:Op.bytesLess x a=true∨x=a):minS x a=x:=by unfold minS;rw[if_pos h]
theorem yi4 {x a:List UInt8} (h: ¬(Op.bytesLess x a=true∨x=a)):minS x a=a∧Op.bytesLess a x=true:=by
 refine⟨by unfold minS;rw[if_neg h], ?_⟩
 rcases zn1 x a with q|q|q
 ·exact absurd (.inl q) h
 ·exact absurd (.inr q) h
 ·exact q
theorem xj3 (x a b:List UInt8):minS (minS x a) b=minS (minS x b) a:=by
 by_cases h1:Op.bytesLess x a=true∨x=a<;>by_cases h2:Op.bytesLess x b=true∨x=b
 ·rw[zH8 h1,zH8 h2,zH8 h1]
 ·obtain⟨e2,l2⟩:=yi4 h2
  rw[zH8 h1,e2]
  refine(zH8 ?_).symm
  exact h1.elim (fun g=> .inl (zh6 _ _ _ l2 g)) (fun g=>by rw[g]at l2;exact .inl l2)
 ·obtain⟨e1,l1⟩:=yi4 h1
  rw[zH8 h2,e1]
  refine zH8 ?_
  exact h2.elim (fun g=> .inl (zh6 _ _ _ l1 g)) (fun g=>by rw[g]at l1;exact .inl l1)
 ·rw[(yi4 h1).1,(yi4 h2).1]
  exact yO3 a b
def zC0 (n:Nat) (t:Int) (name:List UInt8) (b:List UInt8×List UInt8) (e:GExpr):List UInt8×List UInt8:=match xS e name with|none=>b|some (s,v)=>cutF (yY n t v) s b
def yt7 (n:Nat) (t:Int) (name:List UInt8) (b:List UInt8×List UInt8) (c:GCut):List UInt8×List UInt8:=if c.name=name then cutF (yY n t c.v) c.sign b else b
theorem yw2 (A s:List UInt8): ∃f g:List UInt8→List UInt8,((f=fun x=>x)∨ ∃a,f=fun x=>maxS x a)∧((g=fun x=>x)∨ ∃a,g=fun x=>minS x a)∧ ∀b,cutF A s b=(f b.1,g b.2):=by
 unfold cutF
 by_cases h1:s= [61]
 ·exact⟨_,_,.inr ⟨A,rfl⟩,.inr ⟨A++ [0],rfl⟩,fun b=>by rw[if_pos h1]⟩
 by_cases h2:s= [60]
 ·exact⟨_,_,.inl rfl,.inr ⟨A,rfl⟩,fun b=>by rw[if_neg h1,if_pos h2]⟩
 by_cases h3:s= [60,61]
 ·exact⟨_,_,.inl rfl,.inr ⟨A++ [0],rfl⟩,fun b=>by rw[if_neg h1,if_neg h2,if_pos h3]⟩
 by_cases h4:s= [62]
 ·exact⟨_,_,.inr ⟨A++ [0],rfl⟩,.inl rfl,fun b=>by rw[if_neg h1,if_neg h2,if_neg h3,if_pos h4]⟩
 by_cases h5:s= [62,61]
 ·exact⟨_,_,.inr ⟨A,rfl⟩,.inl rfl,fun b=>by rw[if_neg h1,if_neg h2,if_neg h3,if_neg h4,if_pos h5]⟩
 ·exact⟨_,_,.inl rfl,.inl rfl,fun b=>by rw[if_neg h1,if_neg h2,if_neg h3,if_neg h4,if_neg h5]⟩
theorem zR1 (n:Nat) (t:Int) (name:List UInt8) (e:GExpr): ∃f g:List UInt8→List UInt8,((f=fun x=>x)∨ ∃a,f=fun x=>maxS x a)∧((g=fun x=>x)∨ ∃a,g=fun x=>minS x a)∧ ∀b,zC0 n t name b e=(f b.1,g b.2):=by
 unfold zC0
 cases xS e name with
 |none=>exact⟨_,_,.inl rfl,.inl rfl,fun b=>rfl⟩
 |some p=>exact yw2 _ _
theorem xc8 (n:Nat) (t:Int) (name:List UInt8) (b:List UInt8×List UInt8) (e1 e2:GExpr):zC0 n t name (zC0 n t name b e1) e2=zC0 n t name (zC0 n t name b e2) e1:=by
 obtain⟨f1,g1,hf1,hg1,h1⟩:=zR1 n t name e1
 obtain⟨f2,g2,hf2,hg2,h2⟩:=zR1 n t name e2
 rw[h1,h2,h2,h1]
 simp only[Prod.mk.injEq]
 constructor
 ·rcases hf1 with rfl|⟨a1,rfl⟩<;>rcases hf2 with rfl|⟨a2,rfl⟩<;>first|rfl|exact xj2 _ _ _
 ·rcases hg1 with rfl|⟨a1,rfl⟩<;>rcases hg2 with rfl|⟨a2,rfl⟩<;>first|rfl|exact xj3 _ _ _
theorem yx0 {α β:Type} (f:β→α→β) (hf: ∀b x y,f (f b x) y=f (f b y) x) {l l':List α} (h:l.Perm l'): ∀b,l.foldl f b=l'.foldl f b:=by
 induction h with
 |nil=>intro b;rfl
 |cons x _ ih=>intro b;rw[List.foldl_cons,List.foldl_cons,ih]
 |swap x y l=>intro b;rw[List.foldl_cons,List.foldl_cons,List.foldl_cons,List.foldl_cons,hf]
 |trans _ _ ih1 ih2=>intro b;rw[ih1,ih2]
theorem yw1 {A s:List UInt8} (h:cutOps.contains s=false) (b:List UInt8×List UInt8):cutF A s b=b:=by
 have h: ¬s= [61]∧ ¬s= [60]∧ ¬s= [60,61]∧ ¬s= [62]∧ ¬s= [62,61]:=by simpa[cutOps]using h
 unfold cutF
 rw[if_neg h.1,if_neg h.2.1,if_neg h.2.2.1,if_neg h.2.2.2.1,if_neg h.2.2.2.2]
theorem yt9 {s:List UInt8} (h:cutOps.contains s=false):zR2 s=s:=by
 have h: ¬s= [61]∧ ¬s= [60]∧ ¬s= [60,61]∧ ¬s= [62]∧ ¬s= [62,61]:=by simpa[cutOps]using h
 unfold zR2
 rw[if_neg h.2.1,if_neg h.2.2.1,if_neg h.2.2.2.1,if_neg h.2.2.2.2]
theorem zP4 (e:GExpr) (name:List UInt8):(cutOps.contains e.s=true→xS e name=((zo9 e).find? fun c=>c.name==name).map fun c=>(c.sign,c.v))∧(cutOps.contains e.s=false→zo9 e= []∧ ∀s v,xS e name=some (s,v)→s=e.s):=by
 unfold xS zo9
 constructor
 ·intro hc
  by_cases hk:e.kind=3
  ·have hk':(e.kind==3)=true:=by simpa using hk
   rw[hk']
   split
   ·rename_i a b heq hab
    rw[hab]
    simp only[hk,not_true,hc,false_or,Bool.true_eq_false,if_false]
    by_cases b2:b.kind=2
    ·have nb1: ¬(a.kind=2∧b.kind=1∧ ¬b.v.kind=0):=fun h=>by omega
     rw[if_pos b2,if_neg nb1]
     by_cases w:a.kind=1∧ ¬a.v.kind=0
     ·by_cases nm:b.s=name
      ·rw[if_pos ⟨nm,w.1,w.2⟩,if_pos ⟨b2,w.1,w.2⟩]
       simp[nm]
      ·rw[if_neg (fun h=>nm h.1),if_pos ⟨b2,w.1,w.2⟩]
       have nm':(b.s==name)=false:=by simpa using nm
       simp[nm']
     ·rw[if_neg (fun h=>w ⟨h.2.1,h.2.2⟩),if_neg (fun h=>w ⟨h.2.1,h.2.2⟩)]
      rfl
    ·rw[if_neg b2]
     have nb: ¬(b.kind=2∧a.kind=1∧ ¬a.v.kind=0):=fun h=>b2 h.1
     by_cases w:a.kind=2∧b.kind=1∧ ¬b.v.kind=0
     ·by_cases nm:a.s=name
      ·rw[if_pos ⟨w.1,nm,w.2.1,w.2.2⟩,if_pos w]
       simp[nm]
      ·rw[if_neg (fun h=>nm h.2.1),if_pos w]
       have nm':(a.s==name)=false:=by simpa using nm
       simp[nm']
     ·rw[if_neg (fun h=>w ⟨h.1,h.2.2.1,h.2.2.2⟩),if_neg w,if_neg nb]
      rfl
   ·rename_i h1
    split
    ·rename_i a b hab
     exact absurd hab (h1 a b rfl)
    ·rfl
  ·have hk':(e.kind==3)=false:=by simpa using hk
   rw[hk']
   simp only
   split
   ·rw[if_pos (.inl hk)];rfl
   ·rfl
 ·intro hc
  constructor
  ·split
   ·rw[if_pos (.inr hc)]
   ·rfl
  ·intro s v h
   split at h
   ·split at h
    ·split at h
     ·cases h;exact yt9 hc
     ·cases h
    ·split at h
     ·cases h;rfl
     ·cases h
   ·cases h
theorem yM3 {β:Type} (f:β→GCut→β) (name:List UInt8) (e:GExpr) (b:β) (hf: ∀b c,¬c.name=name→f b c=b):(zo9 e).foldl f b=match (zo9 e).find? fun c=>c.name==name with|none=>b|some c=>f b c:=by
 have hl:=yb7 e
 match zo9 e,hl with
 | [],_=>rfl
 | [c],_=>
  by_cases h:c.name=name
  ·have h':(c.name==name)=true:=by simpa using h
   simp[h']
  ·have h':(c.name==name)=false:=by simpa using h
   simp[h',hf b c h]
theorem xl8 (n:Nat) (t:Int) (name:List UInt8) (e:GExpr) (b:List UInt8×List UInt8):(zo9 e).foldl (yt7 n t name) b=zC0 n t name b e:=by
 obtain⟨h1,h2⟩:=zP4 e name
 by_cases hc:cutOps.contains e.s=true
 ·rw[yM3 (yt7 n t name) name e b (fun b c h=>by unfold yt7;rw[if_neg h])]
  unfold zC0
  rw[h1 hc]
  cases hf:(zo9 e).find? fun c=>c.name==name with
  |none=>rfl
  |some c=>
   have hn:c.name=name:=by have:=List.find?_some hf;simpa using this
   simp only[Option.map_some]
   unfold yt7
   rw[if_pos hn]
 ·have hc:cutOps.contains e.s=false:=by simpa using hc
  obtain⟨h3,h4⟩:=h2 hc
  rw[h3]
  unfold zC0
  cases ha:xS e name with
  |none=>rfl
  |some p=>
   obtain⟨s,v⟩:=p
   simp only
   rw[h4 s v ha,yw1 hc]
   rfl
theorem zB0 {α β γ:Type} (f:γ→β→γ) (g:α→List β): ∀(l:List α) (b:γ),(l.flatMap g).foldl f b=l.foldl (fun b a=>(g a).foldl f b) b
 | [],_=>rfl
 |x::l,b=>by rw[List.flatMap_cons,List.foldl_append,List.foldl_cons,zB0 f g l]
theorem xg8 (n:Nat) (t:Int) (name:List UInt8) {st:GStmt} (hs:SOk st) (b:List UInt8×List UInt8):zF5 n t name (ofS4 st) b=zF6 n t name (zj4 st) b:=by
 have h1:zF6 n t name (zj4 st) b=(zj4 st).foldl (zC0 n t name) b:=rfl
 have h2:zF5 n t name (ofS4 st) b=(ofS4 st).foldl (yt7 n t name) b:=rfl
 rw[h1,h2,yx0 (zC0 n t name) (fun b x y=>xc8 n t name b x y) (yb5 hs),yH3,zB0]
 congr 1
 funext b e
 exact xl8 n t name e b
theorem yL1 {st:GStmt} (hs:SOk st) (t:Int):zJ0 tabsS t (ofS4 st)=zg7 tabsS t st:=by
 unfold zJ0 zg7
 split
 ·cases (tabsS[t.toNat]?).bind zp6 with
  |none=>rfl
  |some name=>
   simp only
   rw[xg8 _ _ _ hs,yd3]
 ·rfl
def okP (r:Int) (e:GExpr):Bool:=match xS e [82]with|none=>true|some (s,v)=> !(s== [61]&&(v.kind==2&& !(v.n==r)))
theorem yE4: ∀(l:List GExpr) (rs:List Int),cutR l rs=rs.filter fun r=>l.all (okP r)
 | [],rs=>(List.filter_eq_self.2 fun _ _=>rfl).symm
 |e::l,rs=>by
  have ih:=yE4 l
  have h:cutR (e::l) rs=cutR l (match xS e [82]with|none=>rs|some (s,v)=>if s= [61]∧v.kind=2 then zg0 v.n rs else rs):=rfl
  rw[h,ih]
  have h2:(match xS e [82]with|none=>rs|some (s,v)=>if s= [61]∧v.kind=2 then zg0 v.n rs else rs)=rs.filter (okP · e):=by
   unfold okP
   cases xS e [82]with
   |none=>exact(List.filter_eq_self.2 fun _ _=>rfl).symm
   |some p=>
    obtain⟨s,v⟩:=p
    simp only
    by_cases q:s= [61]∧v.kind=2
    ·rw[if_pos q]
     unfold zg0
     refine List.filter_congr fun r _=> ?_
     rw[q.1,q.2]
     by_cases w:r=v.n
     ·subst w;simp
     ·have w1:(r==v.n)=false:=by simpa using w
      have w2:(v.n==r)=false:=by simpa using fun h=>w h.symm
      rw[w1,w2];rfl
    ·rw[if_neg q]
     refine(List.filter_eq_self.2 fun r _=> ?_).symm
     by_cases q1:s= [61]
     ·have q2:(v.kind==2)=false:=by simpa using fun h=>q ⟨q1,h⟩
      rw[q2];simp
     ·have q1':(s== [61])=false:=by simpa using q1
      rw[q1'];rfl
  rw[h2,List.filter_filter]
  refine List.filter_congr fun r _=> ?_
  rw[List.all_cons,Bool.and_comm]
theorem yN3 (e:GExpr) (r:Int):((zo9 e).all fun c=> !(c.name== [82]&&(c.sign== [61]&&(c.v.kind==2&& !(c.v.n==r)))))=okP r e:=by
 obtain⟨h1,h2⟩:=zP4 e [82]
 unfold okP
 by_cases hc:cutOps.contains e.s=true
 ·rw[h1 hc]
  have hl:=yb7 e
  match zo9 e,hl with
  | [],_=>rfl
  | [c],_=>
   by_cases h:c.name= [82]
   ·have h':(c.name== [82])=true:=by simpa using h
    simp[h']
   ·have h':(c.name== [82])=false:=by simpa using h
    simp[h']
 ·have hc:cutOps.contains e.s=false:=by simpa using hc
  obtain⟨h3,h4⟩:=h2 hc
  rw[h3]
  cases ha:xS e [82]with
  |none=>rfl
  |some p=>
   obtain⟨s,v⟩:=p
   simp only
   rw[h4 s v ha]
   have:(e.s== [61])=false:=by
    have h: ¬e.s= [61]∧ ¬e.s= [60]∧ ¬e.s= [60,61]∧ ¬e.s= [62]∧ ¬e.s= [62,61]:=by simpa[cutOps]using hc
    simpa using h.1
   rw[this];rfl
theorem yS2 {α:Type} (p:α→Bool) {l l':List α} (h:l.Perm l'):l.all p=l'.all p:=by
 rw[Bool.eq_iff_iff,List.all_eq_true,List.all_eq_true]
 exact⟨fun g x hx=>g x (h.mem_iff.2 hx),fun g x hx=>g x (h.mem_iff.1 hx)⟩
theorem zI7 {α β:Type} (p:β→Bool) (g:α→List β): ∀l:List α,(l.flatMap g).all p=l.all fun a=>(g a).all p
 | []=>rfl
 |x::l=>by rw[List.flatMap_cons,List.all_append,List.all_cons,zI7 p g l]
theorem yA2 {st:GStmt} (hs:SOk st) (t:Int):zX9 t (ofS4 st)=zc6 t st:=by
 unfold zX9 zc6
 split
 ·rw[yE4]
  refine List.filter_congr fun r _=> ?_
  rw[yS2 _ (yb5 hs)]
  unfold yX6
  rw[yH3,zI7]
  congr 1
  funext e
  exact yN3 e r
 ·rfl
end Go.Proofs.YtajjjghohakniaaGreat
