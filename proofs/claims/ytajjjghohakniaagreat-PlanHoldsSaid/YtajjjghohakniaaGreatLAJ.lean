/-
  Lists of one's own that are only read from some point on; and calls that are handed such lists to read.
  No condition: a library text; nothing of the program is named.
-/
import Derived.Test.YtajjjghohakniaaGreatLAI
namespace Go.Vx
open Go
def frzK (id:Nat) (rows:List (List V)):V→V
 | .lsv i s n lo m=>if i=id∧n=rows.length∧lo+m≤n then .sl .ro (za8 rows lo m)else .lsv i s n lo m
 |v=>v
def frzC (id:Nat) (rows:List (List V)):V→V
 | .fn f caps=> .fn f (caps.map (frzK id rows))
 |v=>frzK id rows v
def frzA (id:Nat) (rows:List (List V)):V→V
 | .agg cs=> .agg (cs.map (frzC id rows))
 |v=>frzC id rows v
def frzS (id:Nat) (rows:List (List V)):V→V
 | .tup vs=> .tup (vs.map (frzA id rows))
 |v=>frzA id rows v
def yc3 (id:Nat) (rows:List (List V)):Ob→Ob
 | .box cells=> .box (cells.map (frzC id rows))
 | .lst rs s=> .lst (rs.map fun r=>r.map (frzC id rows)) s
 | .mp kvs borns clk=> .mp (kvs.map (frzA id rows)) borns clk
 |o=>o
def zk5 (id:Nat) (rows:List (List V)) (σ:St):St:=(σ.set id .dead).map (yc3 id rows)
structure Like (σ σ':St):Prop where
 app: ∀(id:Nat) n s,σ[id]? =some (.app n s)→σ'[id]? =some (.app n s)
 lst: ∀(id:Nat) rows s,σ[id]? =some (.lst rows s)→ ∃rows',σ'[id]? =some (.lst rows' s)∧rows'.length=rows.length
 dead: ∀(id:Nat),σ[id]? =some .dead→σ'[id]? =some .dead
section
variable {w:World} {L:Nat→Nat} {σ σ':St} {β:List Value}
theorem RdK.like (h:Like σ σ') {v:V} {x:Value} (r:RdK w L σ β v x):RdK w L σ' β v x:=by
 cases v with
 |sl g rows=>cases g with
  |app id=>obtain⟨hr,n,s,hσ,hle,hβ,hl⟩:=r;exact⟨hr,n,s,h.app _ _ _ hσ,hle,hβ,hl⟩
  |ro=>exact r
  |full=>exact r
 |lsv id s n lo m=>
  obtain⟨a,cap,hx,hm,ha,hc⟩:=r
  refine⟨a,cap,hx,hm,ha, ?_⟩
  rcases hc with hd|⟨rows,hσ,hn,hb⟩
  ·exact .inl (h.dead id hd)
  ·obtain⟨r2,e2,l2⟩:=h.lst id rows s hσ
   exact .inr ⟨r2,e2,by omega,fun q=>hb (by omega)⟩
 |lsp id s n i j=>
  obtain⟨b,o,hx,hc⟩:=r
  refine⟨b,o,hx, ?_⟩
  rcases hc with hd|⟨rows,hσ,hn,hb⟩
  ·exact .inl (h.dead id hd)
  ·obtain⟨r2,e2,l2⟩:=h.lst id rows s hσ
   exact .inr ⟨r2,e2,by omega,fun q q'=>hb (by omega) q'⟩
 |_=>exact r
theorem Like.frz {id:Nat} {rows:List (List V)} (σ:St):Like σ (σ.map (yc3 id rows)):=by
 refine⟨fun i n s h=> ?_,fun i rs s h=>⟨_,by rw[List.getElem?_map,h];rfl,by simp⟩,fun i h=> ?_⟩
 ·rw[List.getElem?_map,h];rfl
 ·rw[List.getElem?_map,h];rfl
theorem xs1 {c:Ctx} {L':Nat→Nat} {id s n lo m:Nat} {rows:List (List V)} {x:Value} (hm:Mem c w L σ β) (hσ:σ[id]? =some (.lst rows s)) (hp:wO rows=true) (hL: ∀b n' cap,β[id]? =some (.slice (some ⟨b,0,none⟩) n' cap)→0<cap→rows.length*s≤L' b)
  (hle:Le w L w L') (r:RdK w L σ β (.lsv id s n lo m) x) (hn:n=rows.length) (hlm:lo+m≤n):RdP w L' (.sl .ro (za8 rows lo m)) x:=by
 obtain⟨a,cap,rfl,hmc,hpos,hc⟩:=r
 have hcl:(za8 rows lo m).length=m:=by simp[za8];omega
 by_cases h0:m=0
 ·subst h0
  have:za8 rows lo 0= []:=by simp[za8]
  rw[this]
  exact .sl0 _ _ _ (fun q=>by cases q) (fun _=>by simp)
 rcases hc with hd|⟨rows2,hσ2,hn2,hb⟩
 ·rw[hσ]at hd;cases hd
 ·rw[hσ]at hσ2;cases hσ2
  obtain⟨b0,c0,hβ,hcap,hlo,hadr⟩:=hb hn
  clear hb hpos
  have hm0:0<m:=Nat.pos_of_ne_zero h0
  have hlc:lo<c0:=Nat.lt_of_sub_pos (Nat.lt_of_lt_of_le hm0 (hcap▸hmc.1))
  obtain⟨k0,rfl,rfl⟩:=hadr hlc
  clear hadr
  have hc0:0<c0:=Nat.lt_of_le_of_lt (Nat.zero_le _) hlc
  have hLb:=hL _ _ _ hβ hc0
  obtain⟨a2,cap2,e1,hcp2,hs2,hur,hok⟩:=hm.objs id _ _ hσ hβ
  cases e1
  obtain⟨b',arr,T,fz,e2,hh,_,hsz,_,hall⟩:=hok hc0
  cases e2
  clear hok
  have hu:uni s (za8 rows lo m):=fun q hq=>by
   obtain⟨q0,hq0,rfl⟩:=List.mem_map.1 hq
   rw[List.length_map];exact hur q0 (List.mem_of_mem_drop (List.mem_of_mem_take hq0))
  have hcf:=zY hu
  rw[hcl]at hcf
  have hml:(lo+m)*s≤rows.length*s:=Nat.mul_le_mul_right _ (by omega)
  rw[Nat.add_mul]at hml
  have key:RdP w L' (.sl .ro (za8 rows lo m)) (.slice (some ⟨k0,lo*s,none⟩) (za8 rows lo m).length cap):=by
   refine .of_flat hs2 hu (by rw[hcl];omega) (by rw[hcl];exact hmc.1) (fun _=>by simp) (fun q=>by cases q) fun k v hk=> ?_
   have hkl:k<m*s:=by rw[←hcf];exact(List.getElem?_eq_some_iff.1 hk).1
   have hi:k/s<m:=by rw[Nat.div_lt_iff_lt_mul hs2];exact hkl
   have hj:k%s<s:=Nat.mod_lt _ hs2
   have hk':k=k/s*s+k%s:=by rw[Nat.mul_comm];exact(Nat.div_add_mod k s).symm
   rw[hk',yU _ _ hu hj]at hk
   simp only[za8,List.getElem?_map,List.getElem?_take,if_pos hi,List.getElem?_drop]at hk
   have hlt:lo+k/s<rows.length:=by omega
   rw[List.getElem?_eq_getElem hlt]at hk
   simp only[Option.map_some,Option.bind_some,List.getElem?_map,Option.map_eq_some_iff]at hk
   obtain⟨v0,hv0,rfl⟩:=hk
   have hf:rows.flatten[(lo+k/s)*s+k%s]? =some v0:=by
    rw[yU _ _ hur hj,List.getElem?_eq_getElem hlt];exact hv0
   obtain⟨z,hz,rz⟩:=hall.get _ _ hf
   have hidx:(lo+k/s)*s+k%s=lo*s+k:=by rw[Nat.add_mul];omega
   rw[hidx,List.getElem?_take,if_pos (by omega),Array.getElem?_toList]at hz
   refine⟨z,by simp only[World.cell?,hh];simpa using hz, ?_⟩
   refine(RdC.dem rz ?_).mono hle
   unfold wO at hp
   rw[List.all_eq_true]at hp
   have:=hp _ (List.getElem_mem hlt)
   rw[List.all_eq_true]at this
   exact this _ (List.mem_iff_getElem?.2 ⟨_,hv0⟩)
  rw[hcl]at key
  exact key
def frzL (β:List Value) (id k:Nat) (L:Nat→Nat):Nat→Nat:=
 match β[id]? with
 |some (.slice (some a) _ cap)=>if 0<cap then xJ L a.block k else L
 |_=>L
theorem yF1 {c:Ctx} {id s:Nat} {rows:List (List V)} (hm:Mem c w L σ β) (hσ:σ[id]? =some (.lst rows s)) (hp:wO rows=true):
  Mem c w (frzL β id (rows.length*s) L) (zk5 id rows σ) β∧Le w L w (frzL β id (rows.length*s) L)∧Ext σ β (zk5 id rows σ) β∧(∀v x,RdS w L σ β v x→RdS w (frzL β id (rows.length*s) L) (zk5 id rows σ) β (frzS id rows v) x):=by
 have hil:id<σ.length:=(List.getElem?_eq_some_iff.1 hσ).1
 obtain⟨x0,hβ⟩: ∃x0,β[id]? =some x0:=⟨_,List.getElem?_eq_getElem (by rw[hm.len];exact hil)⟩
 obtain⟨a,cap,rfl,hcap,hs,hur,hok⟩:=hm.objs id _ _ hσ hβ
 have hcm:rows.length*s≤cap*s:=Nat.mul_le_mul_right _ hcap
 have hle:Le w L w (frzL β id (rows.length*s) L):=by
  refine⟨fun b=> ?_,fun _ _ _=>rfl⟩
  unfold frzL
  rw[hβ]
  cases a with
  |none=>exact Nat.le_refl _
  |some a=>
   by_cases h0:0<cap
   ·obtain⟨b',arr,T,fz,e,hh,hf,hsz,hl,hall⟩:=hok h0
    cases e
    simp only[h0,if_true,xJ]
    split
    ·rename_i hb;subst hb;rw[hl];exact Nat.zero_le _
    ·exact Nat.le_refl _
   ·simp only[h0,if_false];exact Nat.le_refl _
 have hext1:Ext σ β (σ.set id .dead) β:=by
  refine⟨fun _ _ h=>h,fun i n s' h=> ?_,fun i rs s' h=> ?_,fun i h=> ?_⟩
  ·have q:id≠i:=fun q=>by subst q;rw[hσ]at h;cases h
   exact⟨n,by rw[List.getElem?_set_ne q];exact h,Nat.le_refl _,fun _=>rfl⟩
  ·by_cases q:id=i
   ·subst q;exact .inl (List.getElem?_set_self hil)
   ·exact .inr ⟨rs,by rw[List.getElem?_set_ne q];exact h,Nat.le_refl _,fun _=>rfl⟩
  ·by_cases q:id=i
   ·subst q;exact List.getElem?_set_self hil
   ·rw[List.getElem?_set_ne q];exact h
 have hlike:Like (σ.set id .dead) (zk5 id rows σ):=Like.frz _
 have hext2:Ext (σ.set id .dead) β (zk5 id rows σ) β:=
  ⟨fun _ _ h=>h,fun i n s' h=>⟨n,hlike.app i n s' h,Nat.le_refl _,fun _=>rfl⟩,fun i rs s' h=>by
   obtain⟨r2,h2,l2⟩:=hlike.lst i rs s' h
   exact .inr ⟨r2,h2,by omega,fun _=>rfl⟩,fun i h=>hlike.dead i h⟩
 have hLb: ∀b n' cap',β[id]? =some (.slice (some ⟨b,0,none⟩) n' cap')→0<cap'→rows.length*s≤frzL β id (rows.length*s) L b:=fun b n' cap' h h0=>by
  unfold frzL
  rw[h]
  simp[h0,xJ]
 have rdK: ∀v x,RdK w L σ β v x→RdK w (frzL β id (rows.length*s) L) (zk5 id rows σ) β (frzK id rows v) x:=fun v x r=>by
  have std:RdK w (frzL β id (rows.length*s) L) (zk5 id rows σ) β v x:=RdK.like hlike (r.mono hle hext1)
  cases v with
  |lsv i s' n lo m=>
   simp only[frzK]
   split
   ·rename_i hc
    obtain⟨rfl,hn,hlm⟩:=hc
    have hs':s'=s:=by
     obtain⟨_,_,_,_,_,hc⟩:=r
     rcases hc with hd|⟨r2,h2,_⟩
     ·rw[hσ]at hd;cases hd
     ·rw[hσ]at h2;cases h2;rfl
    subst hs'
    exact xs1 hm hσ hp hLb hle r hn hlm
   ·exact std
  |_=>exact std
 have rdC: ∀v x,RdC w L σ β v x→RdC w (frzL β id (rows.length*s) L) (zk5 id rows σ) β (frzC id rows v) x:=fun v x r=>by
  cases v with
  |fn f caps=>obtain⟨xs,hx,hc⟩:=r;exact⟨xs,hx,All2.map_l (f:=frzK id rows) (fun _ _ q=>rdK _ _ q) hc⟩
  |lsv i s' n lo m=>
   have h2:=rdK (.lsv i s' n lo m) x r
   show RdC w _ _ β (frzK id rows (.lsv i s' n lo m)) x
   simp only[frzK]at h2⊢
   split
   ·rename_i hc;rw[if_pos hc]at h2;exact h2
   ·rename_i hc;rw[if_neg hc]at h2;exact h2
  |_=>simp only[RdC]at r;have h2:=rdK _ _ r;exact h2
 have rdA: ∀v x,RdA w L σ β v x→RdA w (frzL β id (rows.length*s) L) (zk5 id rows σ) β (frzA id rows v) x:=fun v x r=>by
  cases v with
  |agg cs=>obtain⟨xs,hx,hc⟩:=r;exact⟨xs,hx,All2.map_l (f:=frzC id rows) (fun _ _ q=>rdC _ _ q) hc⟩
  |_=>simp only[RdA]at r;have h2:=rdC _ _ r;exact RdA.of_cell h2
 have rdS: ∀v x,RdS w L σ β v x→RdS w (frzL β id (rows.length*s) L) (zk5 id rows σ) β (frzS id rows v) x:=fun v x r=>by
  cases v with
  |u=>trivial
  |tup vs=>obtain⟨xs,hx,hc⟩:=r;exact⟨xs,hx,All2.map_l (f:=frzA id rows) (fun _ _ q=>rdA _ _ q) hc⟩
  |_=>simp only[RdS]at r;have h2:=rdA _ _ r;exact RdS.of_a h2
 refine⟨?_,hle,hext1.trans hext2,rdS⟩
 have hLo: ∀b,excl (.lst rows s) (.slice a rows.length cap)≠some b→frzL β id (rows.length*s) L b=L b:=fun b h=>by
  unfold frzL
  rw[hβ]
  cases a with
  |none=>rfl
  |some a=>
   by_cases h0:0<cap
   ·simp only[excl,h0,if_true,ne_eq,Option.some.injEq]at h
    simp only[h0,if_true,xJ]
    rw[if_neg (fun q=>h q.symm)]
   ·simp only[h0,if_false]
 have obs: ∀i o x,i≠id→σ[i]? =some o→β[i]? =some x→ObOk w (frzL β id (rows.length*s) L) (zk5 id rows σ) β (yc3 id rows o) x:=fun i o x hi ho hx=>by
  have hr:=hm.objs i o x ho hx
  have hLi: ∀b,excl o x=some b→frzL β id (rows.length*s) L b=L b:=fun b hb=>hLo b fun q=>hm.apart i id o _ x _ b hi ho hx hσ hβ hb q
  cases o with
  |box cells=>
   obtain⟨b,arr,T,fz,rfl,hh,hf,hl,hc⟩:=hr
   exact⟨b,arr,T,fz,rfl,hh,hf,(hLi b rfl).trans hl,All2.map_l (f:=frzC id rows) (fun _ _ q=>rdC _ _ q) hc⟩
  |app n s'=>
   obtain⟨a',cap',rfl,hn,hs',hok'⟩:=hr
   refine⟨a',cap',rfl,hn,hs',fun hlt=> ?_⟩
   obtain⟨b,o',arr,T,fz,rfl,hh,hf,hsz,hl⟩:=hok' hlt
   exact⟨b,o',arr,T,fz,rfl,hh,hf,hsz,(hLi b (by simp[excl,hlt])).trans hl⟩
  |lst rs s'=>
   obtain⟨a',cap',rfl,hn,hs',hu',hok'⟩:=hr
   refine⟨a',cap',by simp,by simpa using hn,hs',fun r hr=> ?_,fun h0=> ?_⟩
   ·obtain⟨r0,hr0,rfl⟩:=List.mem_map.1 hr
    rw[List.length_map];exact hu' r0 hr0
   ·obtain⟨b,arr,T,fz,rfl,hh,hf,hsz,hl,hc⟩:=hok' h0
    refine⟨b,arr,T,fz,rfl,hh,hf,hsz,(hLi b (by simp[excl,h0])).trans hl, ?_⟩
    rw[List.length_map,←List.map_flatten]
    exact All2.map_l (f:=frzC id rows) (fun _ _ q=>rdC _ _ q) hc
  |dead=>trivial
  |mp kvs borns clk=>
   obtain⟨b,es,rfl,hh,hl,hc,hbn⟩:=hr
   exact⟨b,es,rfl,hh,(hLi b rfl).trans hl,All2.map_l (f:=frzA id rows) (fun _ _ q=>rdA _ _ q) hc,hbn⟩
  |it m since seen last=>
   obtain⟨b,mo,rfl,hh,hl,hc⟩:=hr
   exact⟨b,mo,rfl,hh,(hLi b rfl).trans hl,hc⟩
 have inv: ∀i o,(zk5 id rows σ)[i]? =some o→(i=id∧o= .dead)∨(i≠id∧ ∃o',σ[i]? =some o'∧o=yc3 id rows o'):=fun i o h=>by
  unfold zk5 at h
  rw[List.getElem?_map,Option.map_eq_some_iff]at h
  obtain⟨o',h1,rfl⟩:=h
  rcases wE h1 with ⟨rfl,rfl,_⟩|⟨hne,h2⟩
  ·exact .inl ⟨rfl,rfl⟩
  ·exact .inr ⟨hne,o',h2,rfl⟩
 have exf: ∀o x,excl (yc3 id rows o) x=excl o x:=fun o x=>by
  cases o with
  |lst rs s'=>cases x with
   |slice a n cap=>cases a<;>rfl
   |_=>rfl
  |_=>cases x<;>first|rfl|(rename_i q;cases q<;>rfl)
 refine⟨by simp[zk5,hm.len],fun i o x ho hx=> ?_,fun i j o o' x x' b hij ho hx ho' hx' hb=> ?_,fun i o x b ho hx hb=> ?_,fun b hb hx=> ?_,hm.le.trans hle,hm.size,hm.os,hm.tape,hm.output,fun b hb=> ?_,hm.ext.trans (hext1.trans hext2),hm.tab⟩
 ·rcases inv i o ho with ⟨_,rfl⟩|⟨hne,o',h2,rfl⟩
  ·trivial
  ·exact obs i o' x hne h2 hx
 ·rcases inv i o ho with ⟨_,rfl⟩|⟨hne,o1,h2,rfl⟩
  ·simp[excl]at hb
  ·rcases inv j o' ho' with ⟨_,rfl⟩|⟨hne',o2,h3,rfl⟩
   ·simp[excl]
   ·rw[exf]at hb⊢
    exact hm.apart i j o1 o2 x x' b hij h2 hx h3 hx' hb
 ·rcases inv i o ho with ⟨_,rfl⟩|⟨hne,o1,h2,rfl⟩
  ·simp[excl]at hb
  ·rw[exf]at hb
   exact hm.mine i o1 x b h2 hx hb
 ·obtain⟨e1,e2⟩:=hm.same b hb hx
  refine⟨e1, ?_⟩
  rw[hLo b fun q=> ?_]
  ·exact e2
  ·rcases hm.mine id _ _ b hσ hβ q with h|h
   ·omega
   ·exact hx h
 ·rw[hLo b fun q=> ?_]
  ·exact hm.lim b hb
  ·have:=(hm.objs id _ _ hσ hβ).excl_lt q
   omega
end
theorem yG9 {c:Ctx} {w:World} {L:Nat→Nat} {σ:St} {β:List Value} {id off s:Nat} {cells:List V} (hm:Mem c w L σ β) (hs:0<s) (hσ:σ[id]? =some (.box cells)) (hc:cells[off]? =some (.sl .full [])):
  ∃x,Mem c w L (σ.set id (.box (cells.set off (.lsv σ.length s 0 0 0)))++ [.lst [] s]) (β++ [x])∧Ext σ β (σ.set id (.box (cells.set off (.lsv σ.length s 0 0 0)))++ [.lst [] s]) (β++ [x]):=by
 have hil:id<σ.length:=(List.getElem?_eq_some_iff.1 hσ).1
 obtain⟨x0,hβ⟩: ∃x0,β[id]? =some x0:=⟨_,List.getElem?_eq_getElem (by rw[hm.len];exact hil)⟩
 obtain⟨b,arr,T,fz,rfl,hh,hf,hl,hall⟩:=hm.objs id _ _ hσ hβ
 obtain⟨y,hy,ry⟩:=hall.get _ _ hc
 have ry':RdP w L (.sl .full []) y:=ry
 obtain⟨a,cap,hyv,_,hcap⟩:=ry'.len
 have hcap0:=hcap rfl
 simp only[List.length_nil]at hcap0 hyv
 subst hcap0
 have h1:=hm.lstNil (s:=s) (a:=a) hs
 have hext1:=Ext.push σ β hm.len (.lst [] s) (.slice a 0 0)
 have hσ1:(σ++ [Ob.lst [] s])[id]? =some (.box cells):=by rw[List.getElem?_append_left hil];exact hσ
 have hβ1:(β++ [Value.slice a 0 0])[id]? =some (.pointer (some ⟨b,0,none⟩)):=by rw[List.getElem?_append_left (by rw[hm.len];exact hil)];exact hβ
 have hext2:Ext (σ++ [Ob.lst [] s]) (β++ [Value.slice a 0 0]) ((σ++ [Ob.lst [] s]).set id (.box (cells.set off (.lsv σ.length s 0 0 0)))) (β++ [Value.slice a 0 0]):=Ext.setBox hσ1 _
 have hset:=xK _ _ _ hβ1
 have key:=h1.upd (w':=w) (L':=L) id (.box (cells.set off (.lsv σ.length s 0 0 0))) (.pointer (some ⟨b,0,none⟩)) (Le.refl _ _) (by rw[hset];exact hext2) (fun k=>k=b)
  (fun j o' x' k hj ho' hx' hk e=>by subst e;exact h1.apart j id o' _ x' _ k hj ho' hx' hσ1 hβ1 hk rfl)
  (fun k e=>by subst e;exact h1.mine id _ _ k hσ1 hβ1 rfl)
  (fun k hk=>⟨rfl,rfl⟩) rfl rfl rfl rfl h1.lim ?_ (fun k hk=>by simpa[excl]using hk.symm)
 ·rw[hset,List.set_append_left _ _ hil]at key
  rw[List.set_append_left _ _ hil]at hext2
  exact⟨_,key,hext1.trans hext2⟩
 ·rw[hset]
  refine⟨b,arr,T,fz,rfl,hh,hf,hl, ?_⟩
  refine All2.of (by rw[List.length_set];exact hall.length) fun k p z hp hz=> ?_
  rcases wE hp with ⟨rfl,rfl,_⟩|⟨hne,hp'⟩
  ·rw[hy]at hz;cases hz
   rw[hyv]
   refine⟨a,0,rfl,⟨Nat.le_refl _,Nat.le_refl _⟩,fun q=>by omega,.inr ⟨[], ?_,Nat.le_refl _,fun _=>⟨a,0, ?_,rfl,Nat.le_refl _,fun q=>by omega⟩⟩⟩
   ·rw[List.set_append_left _ _ hil,List.getElem?_append_right (by simp)];simp
   ·rw[←hm.len];simp
  ·obtain⟨z',hz',rz⟩:=hall.get _ _ hp'
   rw[hz]at hz';cases hz'
   exact rz.mono (Le.refl _ _) (hext1.trans hext2)
theorem xg0 {c:Ctx} {w:World} {L:Nat→Nat} {σ:St} {β:List Value} {id off s:Nat} {cells:List V} (hm:Mem c w L σ β) (hs:0<s) (hσ:σ[id]? =some (.box cells)) (hc:cells[off]? =some (.sl .full [])):
  ∃x,Mem c w L (σ.set id (.box (cells.set off (.sl (.app σ.length) [])))++ [.app 0 s]) (β++ [x])∧Ext σ β (σ.set id (.box (cells.set off (.sl (.app σ.length) [])))++ [.app 0 s]) (β++ [x]):=by
 have hil:id<σ.length:=(List.getElem?_eq_some_iff.1 hσ).1
 obtain⟨x0,hβ⟩: ∃x0,β[id]? =some x0:=⟨_,List.getElem?_eq_getElem (by rw[hm.len];exact hil)⟩
 obtain⟨b,arr,T,fz,rfl,hh,hf,hl,hall⟩:=hm.objs id _ _ hσ hβ
 obtain⟨y,hy,ry⟩:=hall.get _ _ hc
 have ry':RdP w L (.sl .full []) y:=ry
 obtain⟨a,cap,hyv,_,hcap⟩:=ry'.len
 have hcap0:=hcap rfl
 simp only[List.length_nil]at hcap0 hyv
 subst hcap0
 have h1:=hm.own (n:=0) (a:=a) hs
 have hext1:=Ext.push σ β hm.len (.app 0 s) (.slice a 0 0)
 have hσ1:(σ++ [Ob.app 0 s])[id]? =some (.box cells):=by rw[List.getElem?_append_left hil];exact hσ
 have hβ1:(β++ [Value.slice a 0 0])[id]? =some (.pointer (some ⟨b,0,none⟩)):=by rw[List.getElem?_append_left (by rw[hm.len];exact hil)];exact hβ
 have hext2:Ext (σ++ [Ob.app 0 s]) (β++ [Value.slice a 0 0]) ((σ++ [Ob.app 0 s]).set id (.box (cells.set off (.sl (.app σ.length) [])))) (β++ [Value.slice a 0 0]):=Ext.setBox hσ1 _
 have hset:=xK _ _ _ hβ1
 have key:=h1.upd (w':=w) (L':=L) id (.box (cells.set off (.sl (.app σ.length) []))) (.pointer (some ⟨b,0,none⟩)) (Le.refl _ _) (by rw[hset];exact hext2) (fun k=>k=b)
  (fun j o' x' k hj ho' hx' hk e=>by subst e;exact h1.apart j id o' _ x' _ k hj ho' hx' hσ1 hβ1 hk rfl)
  (fun k e=>by subst e;exact h1.mine id _ _ k hσ1 hβ1 rfl)
  (fun k hk=>⟨rfl,rfl⟩) rfl rfl rfl rfl h1.lim ?_ (fun k hk=>by simpa[excl]using hk.symm)
 ·rw[hset,List.set_append_left _ _ hil]at key
  rw[List.set_append_left _ _ hil]at hext2
  exact⟨_,key,hext1.trans hext2⟩
 ·rw[hset]
  refine⟨b,arr,T,fz,rfl,hh,hf,hl, ?_⟩
  refine All2.of (by rw[List.length_set];exact hall.length) fun k p z hp hz=> ?_
  rcases wE hp with ⟨rfl,rfl,_⟩|⟨hne,hp'⟩
  ·rw[hy]at hz;cases hz
   rw[hyv]
   refine⟨.sl0 .ro a 0 (fun h=>by cases h) (fun _ h=>by cases h),0,s, ?_,Nat.zero_le _,fun _=> ?_,fun r h=>by simp at h⟩
   ·rw[List.set_append_left _ _ hil,List.getElem?_append_right (by simp)];simp
   ·rw[←hm.len];simp
  ·obtain⟨z',hz',rz⟩:=hall.get _ _ hp'
   rw[hz]at hz';cases hz'
   exact rz.mono (Le.refl _ _) (hext1.trans hext2)
def zw9 (cells:List V) (s off n:Nat):List (List V):=(List.range n).map fun i=>((cells.drop (off+i*s)).take s).map dem
def frzB (id:Nat) (cells:List V):V→V
 | .bsv i s off n=>if i=id∧0<s∧off+n*s≤cells.length∧((cells.drop off).take (n*s)).all zk9=true then .sl .ro (zw9 cells s off n)else .bsv i s off n
 |v=>v
theorem ym5 {cells:List V} {s off n:Nat} (h:off+n*s≤cells.length):uni s (zw9 cells s off n):=fun r hr=>by
 obtain⟨i,hi,rfl⟩:=List.mem_map.1 hr
 have hi:=List.mem_range.1 hi
 have:(i+1)*s≤n*s:=Nat.mul_le_mul_right _ hi
 rw[Nat.add_mul,Nat.one_mul]at this
 rw[List.length_map,List.length_take,List.length_drop]
 omega
theorem xg6 {c:Ctx} {w:World} {L:Nat→Nat} {σ:St} {β:List Value} {id:Nat} {cells:List V} (hm:Mem c w L σ β) (hσ:σ[id]? =some (.box cells)):
  ∃L',Mem c w L' (σ.set id .dead) β∧Le w L w L'∧Ext σ β (σ.set id .dead) β∧(∀v x,RdS w L σ β v x→RdS w L' (σ.set id .dead) β (frzB id cells v) x):=by
 have hil:id<σ.length:=(List.getElem?_eq_some_iff.1 hσ).1
 obtain⟨x0,hβ⟩: ∃x0,β[id]? =some x0:=⟨_,List.getElem?_eq_getElem (by rw[hm.len];exact hil)⟩
 obtain⟨b,arr,T,fz,rfl,hh,hf,hl,hall⟩:=hm.objs id _ _ hσ hβ
 have hle:Le w L w (xJ L b cells.length):=by
  refine⟨fun k=> ?_,fun _ _ _=>rfl⟩
  simp only[xJ]
  split
  ·rename_i hk;subst hk;omega
  ·exact Nat.le_refl _
 have hext:Ext σ β (σ.set id .dead) β:=by
  refine⟨fun _ _ h=>h,fun i n s' h=> ?_,fun i rs s' h=> ?_,fun i h=> ?_⟩
  ·have q:id≠i:=fun q=>by subst q;rw[hσ]at h;cases h
   exact⟨n,by rw[List.getElem?_set_ne q];exact h,Nat.le_refl _,fun _=>rfl⟩
  ·have q:id≠i:=fun q=>by subst q;rw[hσ]at h;cases h
   exact .inr ⟨rs,by rw[List.getElem?_set_ne q];exact h,Nat.le_refl _,fun _=>rfl⟩
  ·by_cases q:id=i
   ·subst q;exact List.getElem?_set_self hil
   ·rw[List.getElem?_set_ne q];exact h
 have hLo: ∀k,k≠b→xJ L b cells.length k=L k:=fun k h=>if_neg h
 have inv: ∀i o,(σ.set id .dead)[i]? =some o→(i=id∧o= .dead)∨(i≠id∧σ[i]? =some o):=fun i o h=>by
  rcases wE h with ⟨rfl,rfl,_⟩|⟨hne,h2⟩
  ·exact .inl ⟨rfl,rfl⟩
  ·exact .inr ⟨hne,h2⟩
 refine⟨xJ L b cells.length,⟨by simp[hm.len],fun i o x ho hx=> ?_,fun i j o o' x x' k hij ho hx ho' hx' hb=> ?_,fun i o x k ho hx hb=> ?_,fun k hb hx=> ?_,hm.le.trans hle,hm.size,hm.os,hm.tape,hm.output,fun k hb=> ?_,hm.ext.trans hext,hm.tab⟩,hle,hext,fun v x r=> ?_⟩
 ·rcases inv i o ho with ⟨_,rfl⟩|⟨hne,h2⟩
  ·trivial
  ·exact(hm.objs i o x h2 hx).step hle hext fun k hk=>⟨rfl,hLo k fun e=>by subst e;exact hm.apart i id o _ x _ k hne h2 hx hσ hβ hk rfl⟩
 ·rcases inv i o ho with ⟨_,rfl⟩|⟨hne,h2⟩
  ·simp[excl]at hb
  ·rcases inv j o' ho' with ⟨_,rfl⟩|⟨hne',h3⟩
   ·simp[excl]
   ·exact hm.apart i j o o' x x' k hij h2 hx h3 hx' hb
 ·rcases inv i o ho with ⟨_,rfl⟩|⟨hne,h2⟩
  ·simp[excl]at hb
  ·exact hm.mine i o x k h2 hx hb
 ·obtain⟨e1,e2⟩:=hm.same k hb hx
  refine⟨e1, ?_⟩
  rw[hLo k fun q=> ?_]
  ·exact e2
  ·subst q
   rcases hm.mine id _ _ k hσ hβ rfl with h|h
   ·omega
   ·exact hx h
 ·rw[hLo k fun q=> ?_]
  ·exact hm.lim k hb
  ·subst q
   have:=(hm.objs id _ _ hσ hβ).excl_lt (b:=k) rfl
   omega
 ·have std:=r.mono hle hext
  cases v with
  |bsv i s off n=>
   simp only[frzB]
   split
   ·rename_i hc
    obtain⟨rfl,hs,hlen,hp⟩:=hc
    obtain⟨b',hb',rfl⟩:=r
    rw[hβ]at hb';cases hb'
    have hu:=ym5 (s:=s) (off:=off) (n:=n) hlen
    have hrl:(zw9 cells s off n).length=n:=by simp[zw9]
    have key:RdP w (xJ L b cells.length) (.sl .ro (zw9 cells s off n)) (.slice (some ⟨b,off,none⟩) (zw9 cells s off n).length n):=by
     refine .of_flat hs hu (by rw[hrl];simpa[xJ]using hlen) (by rw[hrl];exact Nat.le_refl _) (fun _=>by simp) (fun q=>by cases q) fun k v hk=> ?_
     have hkl:k<n*s:=by rw[←hrl,←zY hu];exact(List.getElem?_eq_some_iff.1 hk).1
     have hi:k/s<n:=by rw[Nat.div_lt_iff_lt_mul hs];exact hkl
     have hj:k%s<s:=Nat.mod_lt _ hs
     have hk':k=k/s*s+k%s:=by rw[Nat.mul_comm];exact(Nat.div_add_mod k s).symm
     rw[hk',yU _ _ hu hj]at hk
     simp only[zw9,List.getElem?_map,List.getElem?_range hi,Option.map_some,Option.bind_some,List.getElem?_take,if_pos hj,List.getElem?_drop,Option.map_eq_some_iff]at hk
     obtain⟨v0,hv0,rfl⟩:=hk
     have hidx:off+k/s*s+k%s=off+k:=by omega
     rw[hidx]at hv0
     obtain⟨z,hz,rz⟩:=hall.get _ _ hv0
     rw[Array.getElem?_toList]at hz
     refine⟨z,by simp only[World.cell?,hh];simpa using hz,(RdC.dem rz ?_).mono hle⟩
     rw[List.all_eq_true]at hp
     refine hp _ (List.mem_iff_getElem?.2 ⟨k, ?_⟩)
     rw[List.getElem?_take,if_pos hkl,List.getElem?_drop]
     exact hv0
    rw[hrl]at key
    exact key
   ·exact std
  |_=>exact std
inductive Frz:List V→St→List V→St→Prop
 |refl (vs:List V) (σ:St):Frz vs σ vs σ
 |step (id s:Nat) (rows:List (List V)) {vs vs':List V} {σ σ':St} (hσ:σ[id]? =some (.lst rows s)) (hp:wO rows=true) (h:Frz (vs.map (frzS id rows)) (zk5 id rows σ) vs' σ'):Frz vs σ vs' σ'
 |nil (id off s:Nat) (cells:List V) {vs vs':List V} {σ σ':St} (hs:0<s) (hσ:σ[id]? =some (.box cells)) (hc:cells[off]? =some (.sl .full [])) (h:Frz vs (σ.set id (.box (cells.set off (.lsv σ.length s 0 0 0)))++ [.lst [] s]) vs' σ'):Frz vs σ vs' σ'
 |box (id:Nat) (cells:List V) {vs vs':List V} {σ σ':St} (hσ:σ[id]? =some (.box cells)) (h:Frz (vs.map (frzB id cells)) (σ.set id .dead) vs' σ'):Frz vs σ vs' σ'
 |nilv (i s:Nat) {vs vs':List V} {σ σ':St} (hs:0<s) (hv:vs[i]? =some (.sl .full [])) (h:Frz (vs.set i (.lsv σ.length s 0 0 0)) (σ++ [.lst [] s]) vs' σ'):Frz vs σ vs' σ'
theorem Frz.ok {c:Ctx} {w:World} {vs vs':List V} {σ σ':St} (h:Frz vs σ vs' σ'): ∀{L:Nat→Nat} {β xs:List Value},Mem c w L σ β→All2 (RdS w L σ β) vs xs→
  ∃L' β',Mem c w L' σ' β'∧Le w L w L'∧Ext σ β σ' β'∧All2 (RdS w L' σ' β') vs' xs:=by
 induction h with
 |refl vs σ=>exact fun hm ha=>⟨_,_,hm,Le.refl _ _,Ext.refl _ _,ha⟩
 |step id s rows hσ hp _ ih=>
  intro L β xs hm ha
  obtain⟨h1,h2,h3,h4⟩:=yF1 hm hσ hp
  obtain⟨L',β',h5,h6,h7,h8⟩:=ih h1 (All2.map_l (f:=frzS id rows) (fun _ _ q=>h4 _ _ q) ha)
  exact⟨L',β',h5,h2.trans h6,h3.trans h7,h8⟩
 |nil id off s cells hs hσ hc _ ih=>
  intro L β xs hm ha
  obtain⟨x,h1,h2⟩:=yG9 hm hs hσ hc
  obtain⟨L',β',h5,h6,h7,h8⟩:=ih h1 (ha.imp fun _ _ q=>q.mono (Le.refl _ _) h2)
  exact⟨L',β',h5,h6,h2.trans h7,h8⟩
 |box id cells hσ _ ih=>
  intro L β xs hm ha
  obtain⟨L1,h1,h2,h3,h4⟩:=xg6 hm hσ
  obtain⟨L',β',h5,h6,h7,h8⟩:=ih h1 (All2.map_l (f:=frzB id cells) (fun _ _ q=>h4 _ _ q) ha)
  exact⟨L',β',h5,h2.trans h6,h3.trans h7,h8⟩
 |nilv i s hs hv _ ih=>
  rename_i vs0 vs1 s0 s1 _
  intro L β xs hm ha
  obtain⟨x,hx,r⟩:=ha.get _ _ hv
  have hr:RdP w L (.sl .full []) x:=r
  obtain⟨ad,rfl⟩: ∃ad,x= .slice ad 0 0:=by
   cases hr with
   |sl0 g ad cap hg ha=>have:=hg rfl;subst this;exact⟨ad,rfl⟩
   |sl g rows s b o cap c ha hs hlen hlim hcap hg hc hr=>have:=hg rfl;subst this;exact⟨_,rfl⟩
  have h1:=hm.lstNil (a:=ad) hs
  have hext:=Ext.push _ _ hm.len (Ob.lst [] s) (.slice ad 0 0)
  have h2:All2 (RdS w L (s0++ [Ob.lst [] s]) (β++ [.slice ad 0 0])) (vs0.set i (.lsv s0.length s 0 0 0)) xs:=by
   refine All2.of (by rw[List.length_set];exact ha.length) fun j p y hp hy=> ?_
   rcases wE hp with ⟨rfl,rfl,_⟩|⟨_,hp⟩
   ·rw[hx]at hy;cases hy
    exact zK2 (w':=w) (L':=L) (s:=s) (rows:= []) (cap:=0) (a0:=ad) hm.len (Nat.le_refl _) (fun h=>absurd h (by omega))
   ·obtain⟨z,hz,rz⟩:=ha.get _ _ hp
    rw[hy]at hz;cases hz
    exact rz.mono (Le.refl _ _) hext
  obtain⟨L',β',h5,h6,h7,h8⟩:=ih h1 h2
  exact⟨L',β',h5,h6,hext.trans h7,h8⟩
theorem Frz.len {vs vs':List V} {σ σ':St} (h:Frz vs σ vs' σ'):σ.length≤σ'.length:=by
 induction h with
 |refl _ _=>exact Nat.le_refl _
 |step id s rows hσ hp _ ih=>simpa[zk5]using ih
 |nil id off s cells hs hσ hc _ ih=>simp at ih;omega
 |box id cells hσ _ ih=>simpa using ih
 |nilv i s hs hv _ ih=>simp at ih;omega
def zV3:V→Bool
 | .bool _| .int _ _| .str _| .nilp| .u=>true
 | .raw _=>true
 | .sl _ rows=>rows.isEmpty
 |_=>false
def yc2:V→Bool
 | .agg cs=>cs.all zV3
 |v=>zV3 v
def yE9:V→Bool
 | .tup vs=>vs.all yc2
 |v=>yc2 v
section
variable {w w':World} {L L':Nat→Nat} {σ σ':St} {β β':List Value}
theorem yo7 {v:V} {x:Value} (h:zV3 v=true) (r:RdC w L [] [] v x):RdC w' L' σ' β' v x:=by
 cases v with
 |sl g rows=>
  have hr:rows= []:=by simpa[zV3]using h
  subst hr
  cases g with
  |app id=>obtain⟨_,n,s,h,_⟩:=r;simp at h
  |ro=>
   cases r with
   |sl0 _ a cap hg ha=>exact RdP.sl0 _ _ _ hg ha
   |sl _ _ s b o cap c ha hs hlen hlim hcap hg hc hr=>exact RdP.sl0 _ _ _ (fun q=>by cases q) (fun _=>by simp)
  |full=>
   cases r with
   |sl0 _ a cap hg ha=>exact RdP.sl0 _ _ _ hg ha
   |sl _ _ s b o cap c ha hs hlen hlim hcap hg hc hr=>exact RdP.sl0 _ _ _ hg (fun _=>by simp)
 |bool b=>cases r;exact RdP.bool _
 |int k n=>cases r;exact RdP.int _ _
 |str s=>cases r;exact RdP.str _
 |nilp=>cases r;exact RdP.nilp
 |raw v=>cases r with|raw _ h=>exact RdP.raw _ h
 |u=>exact r
 |_=>simp[zV3]at h
theorem yo6 {v:V} {x:Value} (h:yc2 v=true) (r:RdA w L [] [] v x):RdA w' L' σ' β' v x:=by
 cases v with
 |agg cs=>
  obtain⟨xs,hx,hc⟩:=r
  refine⟨xs,hx, ?_⟩
  clear hx
  simp only[yc2]at h
  induction cs generalizing xs with
  |nil=>cases xs with
   |nil=>trivial
   |cons _ _=>exact hc.elim
  |cons c cs ih=>cases xs with
   |nil=>exact hc.elim
   |cons y ys=>
    simp only[List.all_cons,Bool.and_eq_true]at h
    exact⟨yo7 h.1 hc.1,ih h.2 _ hc.2⟩
 |tup vs=>simp[yc2,zV3]at h
 |fn f c=>simp[yc2,zV3]at h
 |_=>exact RdA.of_cell (yo7 (w:=w) (L:=L) h r)
theorem yV7 {v:V} {x:Value} (h:yE9 v=true) (r:RdS w L [] [] v x):RdS w' L' σ' β' v x:=by
 cases v with
 |tup vs=>
  obtain⟨xs,hx,hc⟩:=r
  refine⟨xs,hx, ?_⟩
  clear hx
  simp only[yE9]at h
  induction vs generalizing xs with
  |nil=>cases xs with
   |nil=>trivial
   |cons _ _=>exact hc.elim
  |cons c cs ih=>cases xs with
   |nil=>exact hc.elim
   |cons y ys=>
    simp only[List.all_cons,Bool.and_eq_true]at h
    exact⟨yo6 h.1 hc.1,ih h.2 _ hc.2⟩
 |u=>trivial
 |_=>exact RdS.of_a (yo6 (w:=w) (L:=L) h r)
end
theorem VC.view {P:Program} {c:Ctx} {f:FuncId} {caps args args' as1:List V} {σc σ1:St} {R:V→St→Prop} {K:V→St→Prop} (hc:VCalls P f args' [] R) (hb:zK P f=true) (hf:Frz (args++caps) σc as1 σ1)
  (hargs:All2 (argS (ren [] σ1.length)) args' as1) (hR: ∀r s,R r s→s= []∧yE9 r=true) (hk: ∀r,R r []→K r σc):VC P c (.fn f caps) args σc K:=by
 refine⟨f,caps,rfl,.inl ⟨zU3 hb,fun w L βc vals hm hv=> ?_⟩⟩
 obtain⟨L1,β1,hm1,hle1,hext1,hv1⟩:=hf.ok hm hv
 have hbak:Bak (ren [] σ1.length) [] [] σ1 β1:=by
  have hge: ∀id,σ1.length≤ren [] σ1.length id:=fun id=>by simp[ren]
  refine⟨fun id x hx=> ?_,fun id n s hx=> ?_,fun id rows s hx=> ?_,fun id hx=> ?_⟩
  ·have h1:=(List.getElem?_eq_some_iff.1 hx).1;have h2:=hge id;rw[hm1.len]at h1;omega
  all_goals
   have h1:=(List.getElem?_eq_some_iff.1 hx).1;have h2:=hge id;omega
 have hin:Mem (zn3 w L1 [] []) w L1 [] []:=
  ⟨rfl,fun i o x ho _=>by simp at ho,fun i j o o' x x' b _ ho _ _ _ _=>by simp at ho,fun i o x b ho _ _=>by simp at ho,fun b _ _=>⟨rfl,rfl⟩,Le.refl _ _,Nat.le_refl _,rfl,rfl,rfl,hm1.lim,Ext.refl _ _,hm1.tab.mono hm1.le⟩
 have hav:All2 (RdS w L1 [] []) args' vals:=by
  clear hf hc hk
  induction args' generalizing as1 vals with
  |nil=>cases as1 with
   |nil=>cases vals with
    |nil=>trivial
    |cons _ _=>exact hv1.elim
   |cons _ _=>exact hargs.elim
  |cons p args' ih=>cases as1 with
   |nil=>exact hargs.elim
   |cons q as=>cases vals with
    |nil=>exact hv1.elim
    |cons y ys=>
     refine⟨zw6 hbak hargs.1 hv1.1, ?_⟩
     clear ih
     have key: ∀(args' as:List V) (ys:List Value),All2 (argS (ren [] σ1.length)) args' as→All2 (RdS w L1 σ1 β1) as ys→All2 (RdS w L1 [] []) args' ys:=by
      intro args'
      induction args' with
      |nil=>intro as ys h1 h2;cases as with
       |nil=>cases ys with
        |nil=>trivial
        |cons _ _=>exact h2.elim
       |cons _ _=>exact h1.elim
      |cons p l ih=>intro as ys h1 h2;cases as with
       |nil=>exact h1.elim
       |cons q as=>cases ys with
        |nil=>exact h2.elim
        |cons y ys=>exact⟨zw6 hbak h1.1 h2.1,ih as ys h1.2 h2.2⟩
     exact key _ _ _ hargs.2 hv1.2
 refine(hc w L1 [] vals hin hav).mono fun e w' ⟨v,r,L2,σ',β',he,hRr,hle',hm',hrd⟩=> ?_
 obtain⟨rfl,hflat⟩:=hR r σ' hRr
 have hβ':β'= []:=List.eq_nil_of_length_eq_zero (by rw[hm'.len];rfl)
 subst hβ'
 have hsame: ∀b,b<w.heap.size→w'.heap[b]? =w.heap[b]? :=fun b hb=>(hm'.same b hb (by show b∉zk0 [] [];simp[zk0])).1
 have hsz:w.heap.size≤w'.heap.size:=hm'.size
 let L3:Nat→Nat:=fun b=>if b<w.heap.size then L b else L2 b
 have hL3: ∀b,b<w.heap.size→L3 b=L b:=fun b hb=>if_pos hb
 have hle3:Le w L w' L3:=by
  refine⟨fun b=> ?_,fun b o ho=> ?_⟩
  ·by_cases hb:b<w.heap.size
   ·rw[hL3 b hb];exact Nat.le_refl _
   ·rw[hm.lim b (by omega)];exact Nat.zero_le _
  ·have hb:b<w.heap.size:=by
    rcases Nat.lt_or_ge b w.heap.size with hb|hb
    ·exact hb
    ·rw[hm.lim b hb]at ho;omega
   exact ze3 (hsame b hb) o
 refine⟨v,r,L3,σc,βc,he,hk r hRr, ?_,hle3,Ext.refl _ _,yV7 hflat hrd⟩
 refine⟨hm.len,fun i o x ho hx=>(hm.objs i o x ho hx).step hle3 (Ext.refl _ _) fun b hb=> ?_,hm.apart,hm.mine,fun b hb hx=> ?_,hm.le.trans hle3,Nat.le_trans hm.size hsz,hm'.os.trans hm.os,hm'.tape.trans hm.tape,hm'.output.trans hm.output,fun b hb=> ?_,hm.ext,hm.tab⟩
 ·have hlt:=(hm.objs i o x ho hx).excl_lt hb
  exact⟨hsame b hlt,hL3 b hlt⟩
 ·have hlt:=Nat.lt_of_lt_of_le hb hm.size
  rw[hsame b hlt,hL3 b hlt]
  exact hm.same b hb hx
 ·show(if b<w.heap.size then L b else L2 b)=0
  rw[if_neg (by omega)]
  exact hm'.lim b hb
end Go.Vx
