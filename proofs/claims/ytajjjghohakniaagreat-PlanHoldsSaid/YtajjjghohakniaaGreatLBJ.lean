/-
  Contracts of functions that the claimed statement reaches, each proved over trees (the library Vx); used by the theorem at the end of the claim.
  Conditions: as each theorem states them.
-/
import Derived.Test.YtajjjghohakniaaGreatLBI
namespace Go.Proofs.YtajjjghohakniaaGreat
open Go Go.Vx
set_option maxRecDepth 100000
set_option maxHeartbeats 1000000
theorem yj7 (w:World) (b:Nat) (o o':Go.Obj):yD (yD w b o) b o'=yD w b o':=by
 show{w with heap:=(w.heap.setIfInBounds b o).setIfInBounds b o'}={w with heap:=w.heap.setIfInBounds b o'}
 congr 1
 apply Array.ext_getElem?
 intro i
 rw[Array.getElem?_setIfInBounds,Array.getElem?_setIfInBounds]
 by_cases h:b=i
 ·subst h;simp[Array.getElem?_setIfInBounds]
 ·simp[h]
theorem yB4 (arr:Array Value) (o s:Nat) (D news:List Value) (hn:news.length=s) (hfit:o+s+D.length≤arr.size):yA (yA arr (o+s) D) o news=yA arr o (news++D):=by
 apply Array.ext_getElem?
 intro k
 rw[wU _ _ _ _ (by rw[yH];omega),wU _ _ _ _ hfit,wU _ _ _ _ (by rw[List.length_append];omega)]
 by_cases h1:o≤k∧k<o+news.length
 ·rw[if_pos h1,if_pos (by rw[List.length_append];omega),List.getElem?_append_left (by omega)]
 ·rw[if_neg h1]
  by_cases h2:o+s≤k∧k<o+s+D.length
  ·rw[if_pos h2,if_pos (by rw[List.length_append];omega),List.getElem?_append_right (by omega)]
   congr 1;omega
  ·rw[if_neg h2,if_neg (by rw[List.length_append];omega)]
theorem yh1 {s:Nat} {rows:List (List V)} (h:uni s rows) (i:Nat) (hi:i≤rows.length):(rows.take i).flatten=rows.flatten.take (i*s):=by
 have hl:(rows.take i).flatten.length=i*s:=by rw[zY (fun r hr=>h r (List.mem_of_mem_take hr)),List.length_take,Nat.min_eq_left hi]
 have e:rows.flatten=(rows.take i).flatten++(rows.drop i).flatten:=by rw[←List.flatten_append,List.take_append_drop]
 rw[e]
 rw[List.take_append_of_le_length (Nat.le_of_eq hl.symm),List.take_of_length_le (Nat.le_of_eq hl)]
theorem yh0 {s:Nat} {rows:List (List V)} (h:uni s rows) (i:Nat) (hi:i≤rows.length):(rows.drop i).flatten=rows.flatten.drop (i*s):=by
 have hl:(rows.take i).flatten.length=i*s:=by rw[zY (fun r hr=>h r (List.mem_of_mem_take hr)),List.length_take,Nat.min_eq_left hi]
 have e:rows.flatten=(rows.take i).flatten++(rows.drop i).flatten:=by rw[←List.flatten_append,List.take_append_drop]
 rw[e]
 rw[List.drop_append_of_le_length (Nat.le_of_eq hl.symm),List.drop_of_length_le (Nat.le_of_eq hl),List.nil_append]
theorem yW7 (σ:St) (p q:Nat) (rows:List (List V)) (x:List V) (i:Nat) (hp:σ[p]? =some (.lst rows 2)) (hq:σ[q]? =some (.lst [x] 2)) (hpq:p≠q) (hi:i≤rows.length) (hbig:(rows.length+1)*32≤140737488355328):
  VCalls Tryz.prog 88 [.lsv p 2 rows.length 0 rows.length,.int .i64 i,.lsv q 2 1 0 1] σ
   (fun r σ'=>r= .lsv p 2 (rows.length+1) 0 (rows.length+1)∧σ'=σ.set p (.lst (rows.take i++x::rows.drop i) 2)):=by
 intro w L β vals hm ha
 match vals,ha with
 | [v0,v1,v2],⟨h0,h1,h2,_⟩=>
 obtain⟨a,c0,rfl,⟨hm1,hm2⟩,hpos,hc⟩:=h0
 obtain⟨rows',e,hn',hb⟩: ∃rows',σ[p]? =some (.lst rows' 2)∧rows.length≤rows'.length∧(rows.length=rows'.length→ ∃b c1,β[p]? =some (.slice b rows.length c1)∧c0=c1 - 0∧0≤c1∧(0<c1→ ∃k,b=some ⟨k,0,none⟩∧a=some ⟨k,0*2,none⟩)):=hc.resolve_left (by rw[hp];simp)
 rw[hp]at e;cases e
 obtain⟨b0,c1,hβ,hcc,_,hadr⟩:=hb rfl
 rw[Nat.sub_zero]at hcc
 subst hcc
 obtain⟨a',cq,rfl,⟨hq1,_⟩,_,hcq⟩:=h2
 obtain⟨rowsq,e,_,hbq⟩: ∃rows',σ[q]? =some (.lst rows' 2)∧1≤rows'.length∧(1=rows'.length→ ∃b c1,β[q]? =some (.slice b 1 c1)∧cq=c1 - 0∧0≤c1∧(0<c1→ ∃k,b=some ⟨k,0,none⟩∧a'=some ⟨k,0*2,none⟩)):=hcq.resolve_left (by rw[hq];simp)
 rw[hq]at e;cases e
 obtain⟨bq,c1,hβq,hcc,_,hadrq⟩:=hbq rfl
 rw[Nat.sub_zero]at hcc
 subst hcc
 obtain⟨vb,rfl,rfl⟩:=hadrq (by omega)
 have hokp:=hm.objs p _ _ hp hβ
 obtain⟨a2,cap2,e1,hcp2,hs2,hur,hok⟩:=hm.objs p _ _ hp hβ
 cases e1
 obtain⟨a3,cap3,e1,hcp3,hs3,hurq,hokq⟩:=hm.objs q _ _ hq hβq
 cases e1
 obtain⟨vb',arrv,Tv,fzv,e1,hhv,hfv,hszv,hLv,hallq⟩:=hokq (by omega)
 cases e1
 cases (show v1= .int .i64 (i:Int) from by cases h1;rfl)
 have hx2:x.length=2:=hurq x (by simp)
 obtain⟨news,hnews⟩: ∃news,news=arrv.toList.take 2:=⟨_,rfl⟩
 have hvsz:2≤arrv.size:=by omega
 have hn0:news.length=2:=by rw[hnews];simp;omega
 have hxn:All2 (RdC w L σ β) x news:=by rw[hnews];simpa using hallq
 have h1n: ∀v∈news,v.oneCell'=true:=fun v hv=>by
  obtain⟨j,hj⟩:=List.mem_iff_getElem?.1 hv
  have hjl:j<x.length:=by rw[hxn.length];exact(List.getElem?_eq_some_iff.1 hj).1
  obtain⟨z,hz,r⟩:=hxn.get j _ (List.getElem?_eq_getElem hjl)
  rw[hj]at hz;cases hz;exact r.oneCell
 have hpl:p<σ.length:=(List.getElem?_eq_some_iff.1 hp).1
 have hfl:=zY hur
 have hu2:uni 2 (rows.take i++x::rows.drop i):=fun r hr=>by
  rcases List.mem_append.1 hr with hr|hr
  ·exact hur r (List.mem_of_mem_take hr)
  ·rcases List.mem_cons.1 hr with rfl|hr
   ·exact hx2
   ·exact hur r (List.mem_of_mem_drop hr)
 have hlen2:(rows.take i++x::rows.drop i).length=rows.length+1:=by simp;omega
 have hfl2:(rows.take i++x::rows.drop i).flatten=rows.flatten.take (i*2)++(x++rows.flatten.drop (i*2)):=by
  rw[List.flatten_append,List.flatten_cons,yh1 hur i hi,yh0 hur i hi]
 have hput:(rows.take i++x::rows.drop i).flatten=yP rows.flatten (i*2) (x++rows.flatten.drop (i*2)):=by
  unfold yP
  rw[hfl2,List.drop_of_length_le (l:=rows.flatten) (i:=i*2+_) (by simp only[List.length_append,List.length_drop];omega),List.append_nil]
 have hvb: ∀k0,b0=some ⟨k0,0,none⟩→0<c0→vb≠k0:=fun k0 e hc e2=>by
  subst e;subst e2
  exact hm.apart p q _ _ _ _ vb hpq hp hβ hq hβq (by simp[excl,hc]) (by simp[excl];omega)
 have hsrc:Src Tryz.prog 2 40 (.slice (some ⟨vb,0*2,none⟩) 1 cq) 1 news w:=Src.ofSlice w Tryz.underlying40 ⟨vb,0*2,none⟩ 1 cq news (by rw[hn0]) (fun j u hj=>by
  have hj2:j<2:=by rw[←hn0];exact(List.getElem?_eq_some_iff.1 hj).1
  rw[hnews,List.getElem?_take,if_pos hj2,Array.getElem?_toList]at hj
  rw[Addr.add_lit];simpa[World.cell?,hhv]using hj) h1n
 have done: ∀(w':World) (k1 c1:Nat),rows.length+1≤c1→Mem (zn3 w L σ β) w' L (σ.set p (.lst (rows.take i++x::rows.drop i) 2)) (β.set p (.slice (some ⟨k1,0,none⟩) (rows.length+1) c1))→
   ∃v r L' σ' β',Ending.returned (.slice (some ⟨k1,0,none⟩) (rows.length+1) c1)= .returned v∧(r= .lsv p 2 (rows.length+1) 0 (rows.length+1)∧σ'=σ.set p (.lst (rows.take i++x::rows.drop i) 2))∧σ.length≤σ'.length∧Mem (zn3 w L σ β) w' L' σ' β'∧RdS w' L' σ' β' r v:=by
  intro w' k1 c1 hc1 hmem
  refine⟨_,_,L,_,_,rfl,⟨rfl,rfl⟩,by simp,hmem, ?_⟩
  refine⟨_,c1,rfl,⟨hc1,by omega⟩,fun _=>⟨_,_,rfl⟩,.inr ⟨_,List.getElem?_set_self hpl,by rw[hlen2];exact Nat.le_refl _,fun _=>⟨_,c1,List.getElem?_set_self (by rw[hm.len];exact hpl),rfl,Nat.zero_le _,fun _=>⟨k1,rfl,by rw[Nat.zero_mul]⟩⟩⟩⟩
 by_cases hlt:i<rows.length
 ·have hc0:0<c0:=by omega
  obtain⟨k0,rfl,rfl⟩:=hadr hc0
  obtain⟨k0',arr,T,fz,e1,hh,hf,hsz,hL,hall⟩:=hok hc0
  cases e1
  have hcm:rows.length*2≤c0*2:=Nat.mul_le_mul_right _ hcp2
  obtain⟨D,hD⟩: ∃D,D=(arr.toList.take (rows.length*2)).drop (i*2):=⟨_,rfl⟩
  have hD0:D.length=(rows.length - i)*2:=by rw[hD];simp;omega
  have hDr:All2 (RdC w L σ β) (rows.flatten.drop (i*2)) D:=by rw[hD];exact hall.drop _
  have hD2:D=(arr.toList.drop (i*2)).take ((rows.length - i)*2):=by rw[hD,List.drop_take];congr 1;omega
  have hone: ∀v∈arr.toList.take (rows.length*2),v.oneCell'=true:=fun v hv=>by
   obtain⟨j,hj⟩:=List.mem_iff_getElem?.1 hv
   have hjl:j<rows.flatten.length:=by rw[hall.length];exact(List.getElem?_eq_some_iff.1 hj).1
   obtain⟨z,hz,r⟩:=hall.get j _ (List.getElem?_eq_getElem hjl)
   rw[hj]at hz;cases hz;exact r.oneCell
  by_cases hroom:rows.length+1≤c0
  ·have hd:=hm.drew
   obtain⟨arr',T',fz',hh',_,_,hmem,hle,hext⟩:=hd.1.lstPut (off:=i*2) (vs:=x++rows.flatten.drop (i*2)) (xs:=news++D) (rows2:=rows.take i++x::rows.drop i) hp hβ hc0
    ((hxn.append hDr).imp fun _ _=>RdC.mono hd.2 (Ext.refl _ _)) (by omega) hu2 hput (by omega) (by omega)
   rw[show w.drew.heap[k0]? =w.heap[k0]? from rfl,hh]at hh'
   cases hh'
   refine(yM5 k0 vb c0 cq rows.length i arr arrv T Tv fz fzv D news w hlt hroom (by omega) (hvb k0 rfl hc0) hh hf.1 hsz hhv hfv hvsz hD2 hnews (fun v hv=>hone v (List.mem_of_mem_drop (by rw[←hD];exact hv))) h1n).mono ?_
   rintro e w' ⟨rfl,rfl⟩
   rw[yj7,show(i+1)*2=i*2+2 by omega,yB4 _ _ _ _ _ hn0 (by omega)]
   rw[hlen2]at hmem
   exact done _ k0 c0 hroom hmem
  ·obtain⟨cap',arr',hge,hsz',htk,hcall⟩:=yW6 k0 vb c0 cq rows.length i arr arrv T Tv fz fzv news w hlt (by omega) hcp2 hbig (hvb k0 rfl hc0) hh hsz hhv hvsz hnews hone h1n
   refine hcall.mono ?_
   rintro e w' ⟨rfl,rfl⟩
   have hd:=hm.drew
   have hd2:=hd.1.drew
   have hcells:All2 (RdC w.drew.drew L σ β) (rows.take i++x::rows.drop i).flatten (arr'.toList.take ((rows.take i++x::rows.drop i).length*2)):=by
    rw[hlen2,htk,hfl2,List.append_assoc]
    refine((?_:All2 (RdC w L σ β) _ _).append (hxn.append hDr|>fun h=>by rw[hD]at h;exact h)).imp fun _ _=>RdC.mono (hd.2.trans hd2.2) (Ext.refl _ _)
    have:=hall.take (i*2)
    rwa [List.take_take,Nat.min_eq_left (by omega)]at this
   obtain⟨hmem,hle,hext⟩:=hd2.1.lstRe (cap:=cap') (T:=65) hp hβ hs2 hu2 hcells (by omega) (by omega) hsz'
   rw[hlen2]at hmem
   exact done _ _ cap' hge hmem
 ·have hin:i=rows.length:=by omega
  subst hin
  have hdr:rows.flatten.drop (rows.length*2)= []:=List.drop_of_length_le (by omega)
  by_cases hroom:rows.length+1≤c0
  ·have hc0:0<c0:=by omega
   obtain⟨k0,rfl,rfl⟩:=hadr hc0
   obtain⟨arr,T,fz,hh,hf,hfit,hmem,hle,hext⟩:=hm.lstPut (off:=rows.length*2) (vs:=x++rows.flatten.drop (rows.length*2)) (xs:=news) (rows2:=rows.take rows.length++x::rows.drop rows.length) hp hβ hc0
    (by rw[hdr,List.append_nil];exact hxn) (Nat.le_refl _) hu2 hput (by omega) (by omega)
   obtain⟨k0',arr2,T2,fz2,e1,hh2,_,hsz,_,_⟩:=hok hc0
   cases e1
   rw[hh]at hh2;cases hh2
   refine(yh8 k0 c0 rows.length arr T fz _ news w hroom (by omega) hh hf hsz _ _ rfl hsrc).mono ?_
   rintro e w' ⟨rfl,rfl⟩
   rw[hlen2]at hmem
   exact done _ k0 c0 hroom hmem
  ·obtain⟨olds,hold,hlo,hallo⟩:=zV8 (P:=Tryz.prog) Tryz.underlying40 hokp
   have hold2:(Builtin.firstCells 2 rows.length (.slice a rows.length c0)).run Tryz.prog w.drew= .ok olds.toArray w.drew:=by
    by_cases hc0:0<c0
    ·obtain⟨k0,rfl,rfl⟩:=hadr hc0
     exact hold
    ·have hr0:rows= []:=List.eq_nil_of_length_eq_zero (by omega)
     subst hr0
     have ho0:olds= []:=List.eq_nil_of_length_eq_zero (by rw[hlo];simp)
     subst ho0
     cases a with
     |none=>exact(Src.ofNil (P:=Tryz.prog) (size:=2) w Tryz.underlying40 0).cellsD
     |some a0=>exact(Src.ofSlice (P:=Tryz.prog) (size:=2) w Tryz.underlying40 a0 0 0 [] (by simp) (fun j u h=>by simp at h) (fun _ h=>by cases h)).cellsD
   obtain⟨cap',arr',hge,hsz',htk,hcall⟩:=yh7 a c0 rows.length (.slice (some ⟨vb,0*2,none⟩) 1 cq) olds news w (by omega) hcp2 hbig hold2 hlo _ _ rfl hsrc
   refine hcall.mono ?_
   rintro e w' ⟨rfl,rfl⟩
   have hd:=hm.drew
   have hcells:All2 (RdC w.drew L σ β) (rows.take rows.length++x::rows.drop rows.length).flatten (arr'.toList.take ((rows.take rows.length++x::rows.drop rows.length).length*2)):=by
    rw[hlen2,htk,hfl2,hdr,List.append_nil,List.take_of_length_le (by omega)]
    exact(hallo.append hxn).imp fun _ _=>RdC.mono hd.2 (Ext.refl _ _)
   obtain⟨hmem,hle,hext⟩:=hd.1.lstRe (cap:=cap') (T:=65) hp hβ hs2 hu2 hcells (by omega) (by omega) hsz'
   rw[hlen2]at hmem
   exact done _ _ cap' hge hmem
end Go.Proofs.YtajjjghohakniaaGreat
namespace Go.Proofs.YtajjjghohakniaaGreat
open Go Go.Vx R
set_option maxRecDepth 100000
def nRow (x:Int×List GSpan×Nat):List V:= [.int .i64 x.1,.sl (.app (x.2.2+2)) (x.2.1.map GSpan.row)]
def gS (b:List V) (rows:List (List V)) (A:List Nat):St:= .box b:: .lst rows 2::A.map (fun n=>Ob.app n 2)
def nSt (N:List (Int×List GSpan×Nat)) (A:List Nat):St:=gS [.lsv 1 2 N.length 0 N.length] (N.map nRow) A
structure NOk (N:List (Int×List GSpan×Nat)) (A:List Nat):Prop where
 app: ∀x∈N,A[x.2.2]? =some x.2.1.length
 ids:(N.map (·.2.2)).Nodup
 asc:(N.map (·.1)).Pairwise (· < ·)
def uOf (N:List (Int×List GSpan×Nat)):List (Int×List GSpan):=N.map fun x=>(x.1,x.2.1)
def addF (rng:Int) (x:GSpan) (U:List (Int×List GSpan)):List (Int×List GSpan):=
 if(U.map (·.1)).contains rng=true then U.modify (lowF (U.map (·.1)) rng) (fun y=>(y.1,if y.2.contains x=true then y.2 else y.2++ [x]))
 else U.take (lowF (U.map (·.1)) rng)++(rng,[x])::U.drop (lowF (U.map (·.1)) rng)
def zt8 (rng:Int) (x:GSpan) (U:List (Int×List GSpan)):List (Int×List GSpan):=if(Op.bytesLess x.hi x.lo||x.hi==x.lo)=true then U else addF rng x U
section
variable {b:List V} {rows:List (List V)} {A:List Nat} {τ:St}
theorem yC:(gS b rows A).length=A.length+2:=by simp[gS]
theorem yh2:(gS b rows A++τ)[1]? =some (.lst rows 2):=rfl
theorem yo9 {h:0<(gS b rows A).length}:(gS b rows A)[0]'h= .box b:=rfl
theorem yc4 {h:1<(gS b rows A).length}:(gS b rows A)[1]'h= .lst rows 2:=rfl
theorem xh5:(gS b rows A++τ)[A.length+3]? =τ[1]? :=by rw[List.getElem?_append_right (by rw[yC];omega),yC];congr 1;omega
theorem xh6:(gS b rows A++τ)[A.length+4]? =τ[2]? :=by rw[List.getElem?_append_right (by rw[yC];omega),yC];congr 1;omega
theorem yF2 {i n:Nat} (h:A[i]? =some n):(gS b rows A++τ)[i+2]? =some (.app n 2):=by
 have hi:=(List.getElem?_eq_some_iff.1 h).1
 rw[List.getElem?_append_left (by rw[yC];omega)]
 show(A.map (fun n=>Ob.app n 2))[i]? =_
 rw[List.getElem?_map,h];rfl
theorem xh7 {r':List (List V)}:(gS b rows A++τ).set 1 (.lst r' 2)=gS b r' A++τ:=rfl
theorem xh8 {i m:Nat} (h:i<A.length):(gS b rows A++τ).set (i+2) (.app m 2)=gS b rows (A.set i m)++τ:=by
 rw[List.set_append_left _ _ (by rw[yC];omega)]
 show Ob.box b:: .lst rows 2::(A.map (fun n=>Ob.app n 2)).set i (.app m 2)++τ=_
 rw[←List.map_set];rfl
end
theorem yE2 (N:List (Int×List GSpan×Nat)):za8 (N.map nRow) 0 N.length=(uOf N).map uRow:=by
 unfold za8 uOf
 rw[List.drop_zero,List.take_of_length_le (by simp),List.map_map,List.map_map]
 rfl
theorem yY4 (N:List (Int×List GSpan×Nat)):wO (N.map nRow)=true:=by simp[wO,nRow,zk9]
theorem yX9 (v:Int): ∀l:List Int,l.Pairwise (· < ·)→ ∃i,i≤l.length∧(∀k (h:k<l.length),k<i→l[k]<v)∧(∀k (h:k<l.length),i≤k→v≤l[k])
 | [],_=>⟨0,Nat.le_refl _,fun k h=>absurd h (Nat.not_lt_zero _),fun k h=>absurd h (Nat.not_lt_zero _)⟩
 |a::l,hp=>by
  obtain⟨i,h0,h1,h2⟩:=yX9 v l (List.pairwise_cons.1 hp).2
  by_cases ha:a<v
  ·refine⟨i+1,by simp;omega,fun k h hk=> ?_,fun k h hk=> ?_⟩
   ·match k with
    |0=>exact ha
    |k+1=>exact h1 k (by simpa using h) (by omega)
   ·match k with
    |0=>omega
    |k+1=>exact h2 k (by simpa using h) (by omega)
  ·refine⟨0,Nat.zero_le _,fun k h hk=>absurd hk (Nat.not_lt_zero _),fun k h hk=> ?_⟩
   match k with
   |0=>simp;omega
   |k+1=>
    have hkl:k<l.length:=by simpa using h
    have:=(List.pairwise_cons.1 hp).1 l[k] (List.getElem_mem hkl)
    simp only[List.getElem_cons_succ]
    omega
theorem yd2 {l:List Int} {v:Int} {k:Nat} (hp:l.Pairwise (· < ·)) (hk:lowF l v=k):k≤l.length∧(∀j (h:j<l.length),j<k→l[j]<v)∧(∀j (h:j<l.length),k≤j→v≤l[j])∧(if h:k<l.length then l[k]==v else false)=l.contains v:=by
 obtain⟨i,h0,h1,h2⟩:=yX9 v l hp
 have:=yX8 l v i h0 h1 h2
 rw[hk]at this
 subst this
 exact⟨h0,h1,h2,yG3 l v hp k h1 h2⟩
theorem ya7 {rng:Int} {x:GSpan} {U:List (Int×List GSpan)} {k:Nat} {sp:List GSpan} (hk:lowF (U.map (·.1)) rng=k) (hth:(U.map (·.1)).contains rng=true) (hU:U[k]? =some (rng,sp)) (hx:sp.contains x=true):addF rng x U=U:=by
 unfold addF
 rw[if_pos hth,hk]
 refine List.ext_getElem? fun j=> ?_
 rw[List.getElem?_modify]
 by_cases q:k=j
 ·subst q;rw[hU];simp at hx;simp[hx]
 ·simp[q]
theorem yl6 {rng:Int} {x:GSpan} {U:List (Int×List GSpan)} {k:Nat} {sp:List GSpan} (hk:lowF (U.map (·.1)) rng=k) (hth:(U.map (·.1)).contains rng=true) (hU:U[k]? =some (rng,sp)) (hx:sp.contains x=false):addF rng x U=U.set k (rng,sp++ [x]):=by
 unfold addF
 rw[if_pos hth,hk]
 refine List.ext_getElem? fun j=> ?_
 rw[List.getElem?_modify,List.getElem?_set]
 by_cases q:k=j
 ·subst q
  have hl:=(List.getElem?_eq_some_iff.1 hU).1
  rw[hU];simp at hx;simp[hx,hl]
 ·simp[q]
theorem yJ2 {N:List (Int×List GSpan×Nat)} {k:Nat} {y:Int×List GSpan×Nat} (h:N[k]? =some y):(uOf N)[k]? =some (y.1,y.2.1):=by
 unfold uOf;rw[List.getElem?_map,h];rfl
theorem zL2 {α β:Type} (f:α→β) {l:List α} {k:Nat} {a b:α} (h:l[k]? =some a) (hf:f b=f a):(l.set k b).map f=l.map f:=by
 refine List.ext_getElem? fun j=> ?_
 rw[List.getElem?_map,List.getElem?_map,List.getElem?_set]
 by_cases q:k=j
 ·subst q
  have hl:=(List.getElem?_eq_some_iff.1 h).1
  simp[hl,hf,(List.getElem?_eq_some_iff.1 h).2]
 ·simp[q]
theorem NOk.upd {N:List (Int×List GSpan×Nat)} {A:List Nat} (h:NOk N A) {k:Nat} {r:Int} {sp:List GSpan} {id:Nat} (hk:N[k]? =some (r,sp,id)) (x:GSpan):NOk (N.set k (r,sp++ [x],id)) (A.set id (sp.length+1)):=by
 have hid:=h.app _ (List.mem_of_getElem? hk)
 have hidl:=(List.getElem?_eq_some_iff.1 hid).1
 refine⟨fun y hy=> ?_, ?_, ?_⟩
 ·obtain⟨j,hj⟩:=List.mem_iff_getElem?.1 hy
  rw[List.getElem?_set]at hj
  by_cases q:k=j
  ·subst q
   have hl:=(List.getElem?_eq_some_iff.1 hk).1
   simp[hl]at hj
   subst hj
   simp[hidl]
  ·rw[if_neg q]at hj
   have hne:id≠y.2.2:=fun e=>by
    have hi:=h.ids
    have h1:(N.map (·.2.2))[k]? =some id:=by rw[List.getElem?_map,hk];rfl
    have h2:(N.map (·.2.2))[j]? =some y.2.2:=by rw[List.getElem?_map,hj];rfl
    obtain⟨l1,e1⟩:=List.getElem?_eq_some_iff.1 h1
    obtain⟨l2,e2⟩:=List.getElem?_eq_some_iff.1 h2
    exact q ((List.getElem_inj hi).1 (e1.trans (e.trans e2.symm)))
   rw[List.getElem?_set_ne hne]
   exact h.app y (List.mem_of_getElem? hj)
 ·rw[zL2 (fun y:Int×List GSpan×Nat=>y.2.2) (b:=(r,sp++ [x],id)) hk rfl];exact h.ids
 ·rw[zL2 (fun y:Int×List GSpan×Nat=>y.1) (b:=(r,sp++ [x],id)) hk rfl];exact h.asc
theorem yc5 (N:List (Int×List GSpan×Nat)) (A:List Nat) (h:NOk N A):(gS [.lsv 1 2 N.length 0 N.length] (N.map nRow) A).all (ltOb (A.length+2))=true:=by
 have hi: ∀x∈N,x.2.2<A.length:=fun x hx=>(List.getElem?_eq_some_iff.1 (h.app x hx)).1
 simp only[gS,List.all_cons,Bool.and_eq_true]
 refine⟨by simp[ltOb,ltC,ltK], ?_,by simp[ltOb]⟩
 simp only[ltOb,List.all_map,List.all_eq_true]
 intro x hx
 simp[nRow,ltC,ltK,hi x hx]
theorem NOk.new {N:List (Int×List GSpan×Nat)} {A:List Nat} (h:NOk N A) {k:Nat} {rng:Int} (x:GSpan) (_hk:k≤N.length)
  (h1: ∀j (h:j<((uOf N).map (·.1)).length),j<k→((uOf N).map (·.1))[j]<rng) (h2: ∀j (h:j<((uOf N).map (·.1)).length),k≤j→rng≤((uOf N).map (·.1))[j]) (h3:((uOf N).map (·.1)).contains rng=false):
  NOk (N.take k++(rng,[x],A.length)::N.drop k) (A++ [1]):=by
 have hi: ∀y∈N,y.2.2<A.length:=fun y hy=>(List.getElem?_eq_some_iff.1 (h.app y hy)).1
 have hu:(uOf N).map (·.1)=N.map (·.1):=by unfold uOf;rw[List.map_map];rfl
 simp only[hu]at h1 h2 h3
 refine⟨fun y hy=> ?_, ?_, ?_⟩
 ·rcases List.mem_append.1 hy with hy|hy
  ·have hm:=List.mem_of_mem_take hy
   rw[List.getElem?_append_left (hi y hm)];exact h.app y hm
  ·rcases List.mem_cons.1 hy with rfl|hy
   ·simp
   ·have hm:=List.mem_of_mem_drop hy
    rw[List.getElem?_append_left (hi y hm)];exact h.app y hm
 ·have hp:(N.take k++(rng,[x],A.length)::N.drop k).Perm ((rng,[x],A.length)::N):=by
   refine List.perm_middle.trans (List.Perm.cons _ ?_)
   rw[List.take_append_drop]
  have:=(hp.map (fun y:Int×List GSpan×Nat=>y.2.2)).nodup_iff
  rw[this,List.map_cons,List.nodup_cons]
  refine⟨fun hm=> ?_,h.ids⟩
  obtain⟨y,hy,e⟩:=List.mem_map.1 hm
  have:=hi y hy
  simp only at e
  omega
 ·have hasc:=h.asc
  rw[List.map_append,List.map_cons,List.map_take,List.map_drop]
  rw[←List.take_append_drop k (N.map (·.1))]at hasc
  obtain⟨p1,p2,p3⟩:=List.pairwise_append.1 hasc
  refine List.pairwise_append.2 ⟨p1,List.pairwise_cons.2 ⟨fun b hb=> ?_,p2⟩,fun a ha b hb=> ?_⟩
  ·obtain⟨j,hj,e⟩:=List.mem_iff_getElem.1 hb
   rw[List.getElem_drop]at e
   rw[List.length_drop]at hj
   have hge:=h2 (k+j) (by omega) (by omega)
   rw[e]at hge
   have hne:rng≠b:=fun q=>by
    rw[←q]at hb
    have:(N.map (·.1)).contains rng=true:=List.contains_iff_mem.2 (List.mem_of_mem_drop hb)
    rw[this]at h3;cases h3
   omega
  ·have hlt:a<rng:=by
    obtain⟨j,hj,e⟩:=List.mem_iff_getElem.1 ha
    rw[List.getElem_take]at e
    rw[List.length_take]at hj
    rw[←e]
    exact h1 j (by omega) (by omega)
   rcases List.mem_cons.1 hb with rfl|hb
   ·exact hlt
   ·exact p3 a ha b hb
theorem yY5 {N:List (Int×List GSpan×Nat)} {A:List Nat} (h:NOk N A) {k:Nat} {rng:Int} {x:GSpan} {M:List (Int×List GSpan)} (hk:k≤N.length) (hM:(uOf N).take k++(rng,[x])::(uOf N).drop k=M)
  (h1: ∀j (h:j<((uOf N).map (·.1)).length),j<k→((uOf N).map (·.1))[j]<rng) (h2: ∀j (h:j<((uOf N).map (·.1)).length),k≤j→rng≤((uOf N).map (·.1))[j]) (h3:((uOf N).map (·.1)).contains rng=false) (o1 o2:Ob):
  wret (some (.tup [])) (A.length+2) (fun r s=>r=V.tup []∧ ∃N' A',s=gS [V.lsv 1 2 N'.length 0 N'.length] (List.map nRow N') A'∧NOk N' A'∧uOf N'=M)
   (gS [.lsv 1 2 (N.length+1) 0 (N.length+1)] ((N.take k).map nRow++ [.int .i64 rng,.sl (.app (A.length+4)) [x.row]]::(N.drop k).map nRow) A++ [o1,o2,.app 1 2]):=by
 have hi: ∀y∈N,y.2.2<A.length:=fun y hy=>(List.getElem?_eq_some_iff.1 (h.app y hy)).1
 have hok:=h.new x hk h1 h2 h3
 have hlen:(N.take k++(rng,[x],A.length)::N.drop k).length=N.length+1:=by simp;omega
 obtain⟨pick,hp⟩: ∃pick,pick=List.range (A.length+2)++ [A.length+4]:=⟨_,rfl⟩
 have hpl:pick.length=A.length+3:=by rw[hp];simp
 have hp1: ∀i,i<A.length+2→pick[i]? =some i:=fun i hi=>by
  rw[hp,List.getElem?_append_left (by simpa using hi),List.getElem?_range hi]
 have hp2:pick[A.length+2]? =some (A.length+4):=by
  rw[hp,List.getElem?_append_right (by simp)];simp
 have hr1: ∀(M i:Nat),i<A.length+2→ren pick M i=i:=fun M i hi=>by
  unfold ren
  rw[dif_pos (by omega)]
  have:=hp1 i hi
  rw[List.getElem?_eq_getElem (by omega)]at this
  exact Option.some.inj this
 have hr2: ∀M:Nat,ren pick M (A.length+2)=A.length+4:=fun M=>by
  unfold ren
  rw[dif_pos (by omega)]
  have:=hp2
  rw[List.getElem?_eq_getElem (by omega)]at this
  exact Option.some.inj this
 have hrow: ∀(M:Nat) (y:Int×List GSpan×Nat),y∈N→(nRow y).map (renC (ren pick M))=nRow y:=fun M y hy=>by
  have:=hi y hy
  simp[nRow,renC,renK,hr1 M (y.2.2+2) (by omega)]
 refine zZ7 pick ?_ hp1 (s:=nSt (N.take k++(rng,[x],A.length)::N.drop k) (A++ [1])) (by unfold nSt;rw[yC,hpl];simp) (fun i j o hij ho=> ?_) (zA rfl) ⟨rfl,_,_,rfl,hok, ?_⟩
 ·rw[hp]
  refine List.nodup_append.2 ⟨List.nodup_range,by simp,fun a ha b hb=> ?_⟩
  simp at ha hb
  omega
 ·unfold nSt at ho
  match i with
  |0=>
   rw[hp1 0 (by omega)]at hij;cases hij
   cases ho
   show some (Ob.box _)=_
   simp[yF,renC,renK,hr1 _ 1 (by omega)]
   omega
  |1=>
   rw[hp1 1 (by omega)]at hij;cases hij
   cases ho
   show some (Ob.lst _ 2)=_
   simp only[yF,List.map_append,List.map_cons,List.map_map]
   congr 2
   congr 1
   ·refine List.map_congr_left fun y hy=> ?_
    exact(hrow _ y (List.mem_of_mem_take hy)).symm
   ·congr 1
    ·simp[nRow,renC,renK,hr2]
    ·refine List.map_congr_left fun y hy=> ?_
     exact(hrow _ y (List.mem_of_mem_drop hy)).symm
  |i+2=>
   have ho2:((A++ [1]).map fun n=>Ob.app n 2)[i]? =some o:=ho
   rw[List.getElem?_map,Option.map_eq_some_iff]at ho2
   obtain⟨n,hn,rfl⟩:=ho2
   have hil:=(List.getElem?_eq_some_iff.1 hn).1
   by_cases hiA:i<A.length
   ·rw[hp1 (i+2) (by omega)]at hij;cases hij
    rw[List.getElem?_append_left hiA]at hn
    exact yF2 hn
   ·have hiA:i=A.length:=by simp at hil;omega
    subst hiA
    rw[hp2]at hij;cases hij
    simp at hn
    subst hn
    rw[xh6];rfl
 ·rw[←hM]
  unfold uOf
  rw[List.map_append,List.map_cons,List.map_take,List.map_drop]
theorem yy5 (N:List (Int×List GSpan×Nat)) (A:List Nat) (h:NOk N A) (rng:Int) (x:GSpan) (hN:N.length≤1000) (hS: ∀y∈N,y.2.1.length≤1000000):
  VCalls Tryz.prog 35 [.ptr 0 0,.int .i64 rng,.agg x.row] (nSt N A) (fun r s=>r= .tup []∧ ∃N' A',s=nSt N' A'∧NOk N' A'∧uOf N'=zt8 rng x (uOf N)):=by
 have hbs:=xv0 (uOf N) rng (by unfold uOf;simpa using hN) (by unfold uOf;rw[List.map_map];exact h.asc)
 have hlow:lowF ((uOf N).map (·.1)) rng≤N.length:=by
  unfold lowF uOf
  refine Nat.le_trans (List.length_filter_le _ _) (by simp)
 obtain⟨k,hk⟩: ∃k,lowF ((uOf N).map (·.1)) rng=k:=⟨_,rfl⟩
 obtain⟨there,hth⟩: ∃there,((uOf N).map (·.1)).contains rng=there:=⟨_,rfl⟩
 rw[hk,hth]at hbs
 rw[hk]at hlow
 have hasc:((uOf N).map (·.1)).Pairwise (· < ·):=by unfold uOf;rw[List.map_map];exact h.asc
 obtain⟨_,hlo1,hlo2,hhas⟩:=yd2 hasc hk
 rw[hth]at hhas
 generalize hM:zt8 rng x (uOf N)=M
 unfold zt8 at hM
 refine VCalls.introV (A.length+2) Tryz.func35 Tryz.ntmps35 Tryz.results35 rfl (by simp[nSt,gS]) (Nat.le_of_ble_eq_true rfl) fun c hc hb=> ?_
 refine zC6 32 (by decide) ?_
 refine zC ?_
 unfold nSt
 rw[←List.append_nil (gS _ _ _)]
 simp[go_sem,yC]
 refine(Bool.eq_false_or_eq_true (Op.bytesLess x.hi x.lo||x.hi==x.lo)).elim (fun q=> ?_) (fun q=> ?_)
 ·simp only[q,if_true]at hM
  simp[go_sem,q]
  refine zm3 (A.length+2) (s:=gS [.lsv 1 2 N.length 0 N.length] (N.map nRow) A) (by rw[←yC (b:= [.lsv 1 2 N.length 0 N.length]) (rows:=N.map nRow),List.take_left]) yC (yc5 _ _ h) (Nat.le_refl _) (zA rfl) ⟨rfl,N,A,rfl,h,hM⟩
 simp only[q]at hM
 simp[go_sem,q,yC,yo9]
 refine xd8 hbs Tryz.callB85 (.step 1 2 (N.map nRow) yh2 (yY4 N) (.refl _ _)) ?_ rfl ?_
 ·simp only[List.append_nil,List.map_cons,List.map_nil,frzS,frzA,frzC,frzK,List.length_map,Nat.zero_add,Nat.le_refl,and_self,if_true,yE2]
  exact⟨zW,zA rfl,zA rfl,trivial⟩
 simp[go_sem]
 rw[if_neg (by decide)]at hM
 refine(Bool.eq_false_or_eq_true there).elim (fun q2=> ?_) (fun q2=> ?_)
 ·have hkN:k<N.length:=by
   rw[q2]at hhas
   split at hhas
   ·rename_i h1;unfold uOf at h1;simpa using h1
   ·cases hhas
  obtain⟨⟨r0,sp,id⟩,hNk⟩: ∃y,N[k]=y:=⟨_,rfl⟩
  have hr0:r0=rng:=by
   rw[q2,dif_pos (by unfold uOf;simpa using hkN)]at hhas
   unfold uOf at hhas
   simpa[hNk]using hhas
  subst hr0
  have hmem:(r0,sp,id)∈N:=hNk▸List.getElem_mem hkN
  have hid:A[id]? =some sp.length:=h.app _ hmem
  have hsl:sp.length≤1000000:=hS _ hmem
  have hidl:=(List.getElem?_eq_some_iff.1 hid).1
  have hct:=yW2 sp x (by unfold maxLen;omega)
  simp[go_sem,q2]
  refine zi5 [(9,0)] (A.length+3) (by simp[yC]) (by kernel_rfl) (by kernel_rfl) ?_
  simp[go_sem,yC,yo9,yc4,hkN,hNk,nRow]
  refine zT hct Tryz.callB89 (fun _=>⟨zW,zA rfl,trivial⟩) rfl ?_
  simp[go_sem]
  refine(Bool.eq_false_or_eq_true (sp.contains x)).elim (fun q3=> ?_) (fun q3=> ?_)
  ·have hM2:=(ya7 hk (hth.trans q2) (yJ2 (by rw[List.getElem?_eq_getElem hkN,hNk])) q3).symm.trans hM
   simp only[List.contains_eq_mem]at q3
   simp[go_sem,q3]
   exact zm3 (A.length+2) (s:=gS [.lsv 1 2 N.length 0 N.length] (N.map nRow) A) (by rw[←yC (b:= [.lsv 1 2 N.length 0 N.length]) (rows:=N.map nRow),List.take_left]) yC (yc5 _ _ h) (Nat.le_refl _) (zA rfl) ⟨rfl,N,A,rfl,h,hM2⟩
  ·have hM2:=(yl6 hk (hth.trans q2) (yJ2 (by rw[List.getElem?_eq_getElem hkN,hNk])) q3).symm.trans hM
   simp only[List.contains_eq_mem]at q3
   simp[go_sem,q3]
   refine xC [(13,2),(15,3),(18,4)] 2 (by simp[yC]) (by kernel_rfl) (by kernel_rfl) ?_
   simp[go_sem,yC,yo9,yc4,hkN,hNk,nRow,yF2 hid,xh8 hidl]
   refine zO ⟨by omega,xD rfl⟩ ?_
   simp[go_sem,yC,yc4,hkN,hNk,nRow]
   have hNk':N[k]? =some (r0,sp,id):=by rw[List.getElem?_eq_getElem hkN,hNk]
   have hok2:=h.upd hNk' x
   refine zm3 (A.length+2) (s:=nSt (N.set k (r0,sp++ [x],id)) (A.set id (sp.length+1))) ?_ (by unfold nSt;rw[yC,List.length_set]) (by have:=yc5 _ _ hok2;rw[show(A.set id (sp.length+1)).length=A.length by simp]at this;unfold nSt;exact this) (Nat.le_refl _) (zA rfl) ⟨rfl,_,_,rfl,hok2, ?_⟩
   ·rw[List.take_append_of_le_length (by rw[List.length_set,yC,List.length_set];exact Nat.le_refl _),List.take_of_length_le (by rw[List.length_set,yC,List.length_set];exact Nat.le_refl _)]
    unfold nSt
    rw[List.length_set,List.map_set]
    simp[gS,nRow,GSpan.row]
   ·rw[←hM2]
    unfold uOf
    rw[List.map_set]
 ·have hM2:(uOf N).take k++(rng,[x])::(uOf N).drop k=M:=by rw[←hM];unfold addF;rw[hth,q2,if_neg (by decide),hk]
  simp[go_sem,q2,yC,yo9]
  have hins:=yW7 (gS [.lsv 1 2 N.length 0 N.length] (N.map nRow) A++ [.box [.str x.lo,.str x.hi],.lst [[.int .i64 rng,.sl .full []]] 2]) 1 (A.length+2+1) (N.map nRow) [.int .i64 rng,.sl .full []] k yh2 xh5 (by omega) (by simpa using hlow) (by simp;omega)
  simp only[List.length_map,xh7]at hins
  obtain⟨R,hR⟩: ∃R,List.take k (List.map nRow N)++ [V.int IntKind.i64 rng,V.sl Tag.full []]::List.drop k (List.map nRow N)=R:=⟨_,rfl⟩
  rw[hR]at hins
  have hkm:k≤(N.map nRow).length:=by simpa using hlow
  have hRl:R.length=N.length+1:=by rw[←hR];simp;omega
  have hRk:R[k]? =some [.int .i64 rng,.sl .full []]:=by
   rw[←hR,List.getElem?_append_right (by simp;omega),List.length_take,Nat.min_eq_left hkm,Nat.sub_self];rfl
  have hk1:k<N.length+1:=by omega
  have hkR:k<R.length:=by omega
  have hRk':R[k]= [.int .i64 rng,.sl .full []]:=by have:=hRk;rw[List.getElem?_eq_getElem hkR]at this;exact Option.some.inj this
  have hct:=yW2 [] x (by simp)
  have hki:(k:Int)<N.length+1:=by omega
  refine zw2 hins Tryz.callB88 ?_
  rintro r s ⟨rfl,rfl⟩ _
  simp[go_sem,yC,yo9]
  refine zi5 [(9,0)] (A.length+4) (by simp[yC]) (by kernel_rfl) (by kernel_rfl) ?_
  simp[go_sem,yC]
  refine zO hki ?_
  simp[go_sem,yC,yc4,hk1,hRk',hRl]
  refine zT hct Tryz.callB89 (fun _=>⟨zW,zA rfl,trivial⟩) rfl ?_
  simp[go_sem]
  refine xC [(13,2),(15,3),(18,4)] 2 (by simp[yC]) (by kernel_rfl) (by kernel_rfl) ?_
  simp[go_sem,yC]
  refine zO hki ?_
  simp[go_sem,yC,yc4,hk1,hRk',hRl]
  refine zO ⟨fun _ q=>by simp at q,xD rfl⟩ ?_
  simp[go_sem]
  refine zO hki ?_
  simp[go_sem,yC,yc4,hk1,hRk',hRl]
  have hset:R.set k [.int .i64 rng,.sl (.app (A.length+2+2)) [[.str x.lo,.str x.hi]]]=(N.take k).map nRow++ [.int .i64 rng,.sl (.app (A.length+4)) [x.row]]::(N.drop k).map nRow:=by
   rw[←hR,List.set_append_right _ _ (by simp;omega),List.length_take,Nat.min_eq_left hkm,Nat.sub_self,List.set_cons_zero,List.map_take,List.map_drop]
   rfl
  rw[hset]
  exact yY5 h (by simpa using hlow) hM2 hlo1 hlo2 (by rw[hth,q2]) _ _
end Go.Proofs.YtajjjghohakniaaGreat
