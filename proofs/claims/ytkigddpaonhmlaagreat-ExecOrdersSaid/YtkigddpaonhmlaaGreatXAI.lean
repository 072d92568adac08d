/-
  The code of a function at the level of trees: operations one behind the other, branches, blocks, loops, the call itself.
  No condition: a library text; nothing of the program is named.
-/
import Derived.Test.YtkigddpaonhmlaaGreatXAH
set_option maxHeartbeats 8000000
namespace Go.Vx
open Go
def frzK (id:Nat) (rows:List (List V)):V->V
 | .lsv i s n lo m=>if i=id/\n=rows.length/\lo+m<=n then .sl .ro (za3 rows lo m)else .lsv i s n lo m
 |v=>v
def frzC (id:Nat) (rows:List (List V)):V->V
 | .fn f caps=> .fn f (caps.map (frzK id rows))
 | .ifc t vs=> .ifc t (vs.map (frzK id rows))
 |v=>frzK id rows v
def frzA (id:Nat) (rows:List (List V)):V->V
 | .agg cs=> .agg (cs.map (frzC id rows))
 |v=>frzC id rows v
def frzS (id:Nat) (rows:List (List V)):V->V
 | .tup vs=> .tup (vs.map (frzA id rows))
 |v=>frzA id rows v
def zO5 (id:Nat) (rows:List (List V)):Ob->Ob
 | .box cells=> .box (cells.map (frzC id rows))
 | .lst rs s=> .lst (rs.map fun r=>r.map (frzC id rows)) s
 | .mp kvs borns clk=> .mp (kvs.map (frzA id rows)) borns clk
 |o=>o
def zl7 (id:Nat) (rows:List (List V)) (σ:St):St:=(σ.set id .dead).map (zO5 id rows)
structure Like (σ σ':St):Prop where
 app: ∀(id:Nat) n s,σ[id]? =some (.app n s)->σ'[id]? =some (.app n s)
 lst: ∀(id:Nat) rows s,σ[id]? =some (.lst rows s)-> ∃rows',σ'[id]? =some (.lst rows' s)/\rows'.length=rows.length
 dead: ∀(id:Nat),σ[id]? =some .dead->σ'[id]? =some .dead
section
variable {w:World} {L:Nat->Nat} {σ σ':St} {β:List Value}
theorem RdK.like (h:Like σ σ') {v:V} {x:Value} (r:RdK w L σ β v x):RdK w L σ' β v x:=by
 cases v with
 |sl g rows=>cases g with
  |app id=>obtain⟨hr,n,s,hσ,hle,hβ,hl⟩:=r;exact⟨hr,n,s,h.app _ _ _ hσ,hle,hβ,hl⟩
  |ro=>exact r
  |full=>exact r
 |lsv id s n lo m=>
  obtain⟨a,cap,hx,hm,ha,hc⟩:=r
  refine⟨a,cap,hx,hm,ha, ?_⟩
  rcases hc with hd|⟨rows,hσ,hn,hb⟩
  .exact .inl (h.dead id hd)
  .obtain⟨r2,e2,l2⟩:=h.lst id rows s hσ
   exact .inr ⟨r2,e2,by omega,fun q=>hb (by omega)⟩
 |lsp id s n i j=>
  obtain⟨b,o,hx,hc⟩:=r
  refine⟨b,o,hx, ?_⟩
  rcases hc with hd|⟨rows,hσ,hn,hb⟩
  .exact .inl (h.dead id hd)
  .obtain⟨r2,e2,l2⟩:=h.lst id rows s hσ
   exact .inr ⟨r2,e2,by omega,fun q q'=>hb (by omega) q'⟩
 |_=>exact r
theorem Like.frz {id:Nat} {rows:List (List V)} (σ:St):Like σ (σ.map (zO5 id rows)):=by
 refine⟨fun i n s h=> ?_,fun i rs s h=>⟨_,by rw[Az,h];rfl,by simp⟩,fun i h=> ?_⟩
 .rw[Az,h];rfl
 .rw[Az,h];rfl
theorem xQ1 {c:Ctx} {L':Nat->Nat} {id s n lo m:Nat} {rows:List (List V)} {x:Value} (hm:Mem c w L σ β) (hσ:σ[id]? =some (.lst rows s)) (hp:xW rows=true) (hL: ∀b n' cap,β[id]? =some (.slice (some ⟨b,0,none⟩) n' cap)->0<cap->rows.length*s<=L' b)
  (hle:Le w L w L') (r:RdK w L σ β (.lsv id s n lo m) x) (hn:n=rows.length) (hlm:lo+m<=n):RdP w L' (.sl .ro (za3 rows lo m)) x:=by
 obtain⟨a,cap,rfl,hmc,hpos,hc⟩:=r
 have hcl:(za3 rows lo m).length=m:=by simp[za3];omega
 by_cases h0:m=0
 .subst h0
  have:za3 rows lo 0= []:=by simp[za3]
  rw[this]
  exact .sl0 _ _ _ (fun q=>by cases q) (fun _=>by simp)
 rcases hc with hd|⟨rows2,hσ2,hn2,hb⟩
 .rw[hσ]at hd;cases hd
 .rw[hσ]at hσ2;cases hσ2
  obtain⟨b0,c0,hβ,hcap,hlo,hadr⟩:=hb hn
  clear hb hpos
  have hm0:0<m:=Nat.pos_of_ne_zero h0
  have hlc:lo<c0:=Nat.lt_of_sub_pos (D0 hm0 (hcap▸hmc.1))
  obtain⟨k0,rfl,rfl⟩:=hadr hlc
  clear hadr
  have hc0:0<c0:=Nat.lt_of_le_of_lt (A3 _) hlc
  have hLb:=hL _ _ _ hβ hc0
  obtain⟨a2,cap2,e1,hcp2,hs2,hur,hok⟩:=hm.objs id _ _ hσ hβ
  cases e1
  obtain⟨b',arr,T,fz,e2,hh,_,hsz,_,hall⟩:=hok hc0
  cases e2
  clear hok
  have hu:uni s (za3 rows lo m):=fun q hq=>by
   obtain⟨q0,hq0,rfl⟩:=Ac.1 hq
   rw[Aq];exact hur q0 (D2 (Bn hq0))
  have hcf:=yA hu
  rw[hcl]at hcf
  have hml:(lo+m)*s<=rows.length*s:=Ao _ (by omega)
  rw[An]at hml
  have key:RdP w L' (.sl .ro (za3 rows lo m)) (.slice (some ⟨k0,lo*s,none⟩) (za3 rows lo m).length cap):=by
   refine .of_flat hs2 hu (by rw[hcl];omega) (by rw[hcl];exact hmc.1) (fun _=>by simp) (fun q=>by cases q) fun k v hk=> ?_
   have hkl:k<m*s:=by rw[<-hcf];exact(A1.1 hk).1
   have hi:k/s<m:=by rw[Cj hs2];exact hkl
   have hj:k%s<s:=D1 _ hs2
   have hk':k=k/s*s+k%s:=by rw[Bw];exact(Di k s).symm
   rw[hk',yM _ _ hu hj]at hk
   simp only[za3,Az,Ae,if_pos hi,B0]at hk
   have hlt:lo+k/s<rows.length:=by omega
   rw[A0 hlt]at hk
   simp only[B3,As,Az,B6]at hk
   obtain⟨v0,hv0,rfl⟩:=hk
   have hf:rows.flatten[(lo+k/s)*s+k%s]? =some v0:=by
    rw[yM _ _ hur hj,A0 hlt];exact hv0
   obtain⟨z,hz,rz⟩:=hall.get _ _ hf
   have hidx:(lo+k/s)*s+k%s=lo*s+k:=by rw[An];omega
   rw[hidx,Ae,if_pos (by omega),Aj]at hz
   refine⟨z,by simp only[World.cell?,hh];simpa using hz, ?_⟩
   refine(RdC.dem rz ?_).mono hle
   unfold xW at hp
   rw[Af]at hp
   have:=hp _ (A8 hlt)
   rw[Af]at this
   exact this _ (Av.2 ⟨_,hv0⟩)
  rw[hcl]at key
  exact key
def frzL (β:List Value) (id k:Nat) (L:Nat->Nat):Nat->Nat:=
 match β[id]? with
 |some (.slice (some a) _ cap)=>if 0<cap then yY L a.block k else L
 |_=>L
theorem yW1 {c:Ctx} {id s:Nat} {rows:List (List V)} (hm:Mem c w L σ β) (hσ:σ[id]? =some (.lst rows s)) (hp:xW rows=true):
  Mem c w (frzL β id (rows.length*s) L) (zl7 id rows σ) β/\Le w L w (frzL β id (rows.length*s) L)/\Ext σ β (zl7 id rows σ) β/\(∀v x,RdS w L σ β v x->RdS w (frzL β id (rows.length*s) L) (zl7 id rows σ) β (frzS id rows v) x):=by
 have hil:id<σ.length:=(A1.1 hσ).1
 obtain⟨x0,hβ⟩: ∃x0,β[id]? =some x0:=⟨_,A0 (by rw[hm.len];exact hil)⟩
 obtain⟨a,cap,rfl,hcap,hs,hur,hok⟩:=hm.objs id _ _ hσ hβ
 have hcm:rows.length*s<=cap*s:=Ao _ hcap
 have hle:Le w L w (frzL β id (rows.length*s) L):=by
  refine⟨fun b=> ?_,fun _ _ _=>rfl⟩
  unfold frzL
  rw[hβ]
  cases a with
  |none=>exact A2 _
  |some a=>
   by_cases h0:0<cap
   .obtain⟨b',arr,T,fz,e,hh,hf,hsz,hl,hall⟩:=hok h0
    cases e
    simp only[h0,if_true,yY]
    split
    .rename_i hb;subst hb;rw[hl];exact A3 _
    .exact A2 _
   .simp only[h0,if_false];exact A2 _
 have hext1:Ext σ β (σ.set id .dead) β:=by
  refine⟨fun _ _ h=>h,fun i n s' h=> ?_,fun i rs s' h=> ?_,fun i h=> ?_⟩
  .have q:id≠i:=fun q=>by subst q;rw[hσ]at h;cases h
   exact⟨n,by rw[Ad q];exact h,A2 _,fun _=>rfl⟩
  .by_cases q:id=i
   .subst q;exact .inl (Ak hil)
   .exact .inr ⟨rs,by rw[Ad q];exact h,A2 _,fun _=>rfl⟩
  .by_cases q:id=i
   .subst q;exact Ak hil
   .rw[Ad q];exact h
 have hlike:Like (σ.set id .dead) (zl7 id rows σ):=Like.frz _
 have hext2:Ext (σ.set id .dead) β (zl7 id rows σ) β:=
  ⟨fun _ _ h=>h,fun i n s' h=>⟨n,hlike.app i n s' h,A2 _,fun _=>rfl⟩,fun i rs s' h=>by
   obtain⟨r2,h2,l2⟩:=hlike.lst i rs s' h
   exact .inr ⟨r2,h2,by omega,fun _=>rfl⟩,fun i h=>hlike.dead i h⟩
 have hLb: ∀b n' cap',β[id]? =some (.slice (some ⟨b,0,none⟩) n' cap')->0<cap'->rows.length*s<=frzL β id (rows.length*s) L b:=fun b n' cap' h h0=>by
  unfold frzL
  rw[h]
  simp[h0,yY]
 have rdK: ∀v x,RdK w L σ β v x->RdK w (frzL β id (rows.length*s) L) (zl7 id rows σ) β (frzK id rows v) x:=fun v x r=>by
  have std:RdK w (frzL β id (rows.length*s) L) (zl7 id rows σ) β v x:=RdK.like hlike (r.mono hle hext1)
  cases v with
  |lsv i s' n lo m=>
   simp only[frzK]
   split
   .rename_i hc
    obtain⟨rfl,hn,hlm⟩:=hc
    have hs':s'=s:=by
     obtain⟨_,_,_,_,_,hc⟩:=r
     rcases hc with hd|⟨r2,h2,_⟩
     .rw[hσ]at hd;cases hd
     .rw[hσ]at h2;cases h2;rfl
    subst hs'
    exact xQ1 hm hσ hp hLb hle r hn hlm
   .exact std
  |_=>exact std
 have rdC: ∀v x,RdC w L σ β v x->RdC w (frzL β id (rows.length*s) L) (zl7 id rows σ) β (frzC id rows v) x:=fun v x r=>by
  cases v with
  |fn f caps=>obtain⟨xs,hx,hc⟩:=r;exact⟨xs,hx,All2.map_l (f:=frzK id rows) (fun _ _ q=>rdK _ _ q) hc⟩
  |ifc t v=>obtain⟨y,hx,hc⟩:=r;exact⟨y,hx,All2.map_l (f:=frzK id rows) (fun _ _ q=>rdK _ _ q) hc⟩
  |lsv i s' n lo m=>
   have h2:=rdK (.lsv i s' n lo m) x r
   show RdC w _ _ β (frzK id rows (.lsv i s' n lo m)) x
   simp only[frzK]at h2⊢
   split
   .rename_i hc;rw[if_pos hc]at h2;exact h2
   .rename_i hc;rw[if_neg hc]at h2;exact h2
  |_=>simp only[RdC]at r;have h2:=rdK _ _ r;exact h2
 have rdA: ∀v x,RdA w L σ β v x->RdA w (frzL β id (rows.length*s) L) (zl7 id rows σ) β (frzA id rows v) x:=fun v x r=>by
  cases v with
  |agg cs=>obtain⟨xs,hx,hc⟩:=r;exact⟨xs,hx,All2.map_l (f:=frzC id rows) (fun _ _ q=>rdC _ _ q) hc⟩
  |_=>simp only[RdA]at r;have h2:=rdC _ _ r;exact RdA.of_cell h2
 have rdS: ∀v x,RdS w L σ β v x->RdS w (frzL β id (rows.length*s) L) (zl7 id rows σ) β (frzS id rows v) x:=fun v x r=>by
  cases v with
  |u=>trivial
  |tup vs=>obtain⟨xs,hx,hc⟩:=r;exact⟨xs,hx,All2.map_l (f:=frzA id rows) (fun _ _ q=>rdA _ _ q) hc⟩
  |_=>simp only[RdS]at r;have h2:=rdA _ _ r;exact RdS.of_a h2
 refine⟨?_,hle,hext1.trans hext2,rdS⟩
 have hLo: ∀b,excl (.lst rows s) (.slice a rows.length cap)≠some b->frzL β id (rows.length*s) L b=L b:=fun b h=>by
  unfold frzL
  rw[hβ]
  cases a with
  |none=>rfl
  |some a=>
   by_cases h0:0<cap
   .simp only[excl,h0,if_true,ne_eq,Option.some.injEq]at h
    simp only[h0,if_true,yY]
    rw[if_neg (fun q=>h q.symm)]
   .simp only[h0,if_false]
 have obs: ∀i o x,i≠id->σ[i]? =some o->β[i]? =some x->ObOk w (frzL β id (rows.length*s) L) (zl7 id rows σ) β (zO5 id rows o) x:=fun i o x hi ho hx=>by
  have hr:=hm.objs i o x ho hx
  have hLi: ∀b,excl o x=some b->frzL β id (rows.length*s) L b=L b:=fun b hb=>hLo b fun q=>hm.apart i id o _ x _ b hi ho hx hσ hβ hb q
  cases o with
  |box cells=>
   obtain⟨b,arr,T,fz,rfl,hh,hf,hl,hc⟩:=hr
   exact⟨b,arr,T,fz,rfl,hh,hf,(hLi b rfl).trans hl,All2.map_l (f:=frzC id rows) (fun _ _ q=>rdC _ _ q) hc⟩
  |app n s'=>
   obtain⟨a',cap',rfl,hn,hs',hok'⟩:=hr
   refine⟨a',cap',rfl,hn,hs',fun hlt=> ?_⟩
   obtain⟨b,o',arr,T,fz,rfl,hh,hf,hsz,hl⟩:=hok' hlt
   exact⟨b,o',arr,T,fz,rfl,hh,hf,hsz,(hLi b (by simp[excl,hlt])).trans hl⟩
  |lst rs s'=>
   obtain⟨a',cap',rfl,hn,hs',hu',hok'⟩:=hr
   refine⟨a',cap',by simp,by simpa using hn,hs',fun r hr=> ?_,fun h0=> ?_⟩
   .obtain⟨r0,hr0,rfl⟩:=Ac.1 hr
    rw[Aq];exact hu' r0 hr0
   .obtain⟨b,arr,T,fz,rfl,hh,hf,hsz,hl,hc⟩:=hok' h0
    refine⟨b,arr,T,fz,rfl,hh,hf,hsz,(hLi b (by simp[excl,h0])).trans hl, ?_⟩
    rw[Aq,<-List.map_flatten]
    exact All2.map_l (f:=frzC id rows) (fun _ _ q=>rdC _ _ q) hc
  |dead=>trivial
  |mp kvs borns clk=>
   obtain⟨b,es,rfl,hh,hl,hc,hbn⟩:=hr
   exact⟨b,es,rfl,hh,(hLi b rfl).trans hl,All2.map_l (f:=frzA id rows) (fun _ _ q=>rdA _ _ q) hc,hbn⟩
  |it m since seen last=>
   obtain⟨b,mo,rfl,hh,hl,hc⟩:=hr
   exact⟨b,mo,rfl,hh,(hLi b rfl).trans hl,hc⟩
 have inv: ∀i o,(zl7 id rows σ)[i]? =some o->(i=id/\o= .dead)∨(i≠id/\ ∃o',σ[i]? =some o'/\o=zO5 id rows o'):=fun i o h=>by
  unfold zl7 at h
  rw[Az,B6]at h
  obtain⟨o',h1,rfl⟩:=h
  rcases wL h1 with ⟨rfl,rfl,_⟩|⟨hne,h2⟩
  .exact .inl ⟨rfl,rfl⟩
  .exact .inr ⟨hne,o',h2,rfl⟩
 have exf: ∀o x,excl (zO5 id rows o) x=excl o x:=fun o x=>by
  cases o with
  |lst rs s'=>cases x with
   |slice a n cap=>cases a<;>rfl
   |_=>rfl
  |_=>cases x<;>first|rfl|(rename_i q;cases q<;>rfl)
 refine⟨by simp[zl7,hm.len],fun i o x ho hx=> ?_,fun i j o o' x x' b hij ho hx ho' hx' hb=> ?_,fun i o x b ho hx hb=> ?_,fun b hb hx=> ?_,hm.le.trans hle,hm.size,hm.os,hm.tape,hm.output,hm.drawn,fun b hb=> ?_,hm.ext.trans (hext1.trans hext2),hm.tab⟩
 .rcases inv i o ho with ⟨_,rfl⟩|⟨hne,o',h2,rfl⟩
  .trivial
  .exact obs i o' x hne h2 hx
 .rcases inv i o ho with ⟨_,rfl⟩|⟨hne,o1,h2,rfl⟩
  .simp[excl]at hb
  .rcases inv j o' ho' with ⟨_,rfl⟩|⟨hne',o2,h3,rfl⟩
   .simp[excl]
   .rw[exf]at hb⊢
    exact hm.apart i j o1 o2 x x' b hij h2 hx h3 hx' hb
 .rcases inv i o ho with ⟨_,rfl⟩|⟨hne,o1,h2,rfl⟩
  .simp[excl]at hb
  .rw[exf]at hb
   exact hm.mine i o1 x b h2 hx hb
 .obtain⟨e1,e2⟩:=hm.same b hb hx
  refine⟨e1, ?_⟩
  rw[hLo b fun q=> ?_]
  .exact e2
  .rcases hm.mine id _ _ b hσ hβ q with h|h
   .omega
   .exact hx h
 .rw[hLo b fun q=> ?_]
  .exact hm.lim b hb
  .have:=(hm.objs id _ _ hσ hβ).excl_lt q
   omega
end
theorem yY4 {c:Ctx} {w:World} {L:Nat->Nat} {σ:St} {β:List Value} {id off s:Nat} {cells:List V} (hm:Mem c w L σ β) (hs:0<s) (hσ:σ[id]? =some (.box cells)) (hc:cells[off]? =some (.sl .full [])):
  ∃x,Mem c w L (σ.set id (.box (cells.set off (.lsv σ.length s 0 0 0)))++ [.lst [] s]) (β++ [x])/\Ext σ β (σ.set id (.box (cells.set off (.lsv σ.length s 0 0 0)))++ [.lst [] s]) (β++ [x]):=by
 have hil:id<σ.length:=(A1.1 hσ).1
 obtain⟨x0,hβ⟩: ∃x0,β[id]? =some x0:=⟨_,A0 (by rw[hm.len];exact hil)⟩
 obtain⟨b,arr,T,fz,rfl,hh,hf,hl,hall⟩:=hm.objs id _ _ hσ hβ
 obtain⟨y,hy,ry⟩:=hall.get _ _ hc
 have ry':RdP w L (.sl .full []) y:=ry
 obtain⟨a,cap,hyv,_,hcap⟩:=ry'.len
 have hcap0:=hcap rfl
 simp only[D7]at hcap0 hyv
 subst hcap0
 have h1:=hm.lstNil (s:=s) (a:=a) hs
 have hext1:=Ext.push σ β hm.len (.lst [] s) (.slice a 0 0)
 have hσ1:(σ++ [Ob.lst [] s])[id]? =some (.box cells):=by rw[Ab hil];exact hσ
 have hβ1:(β++ [Value.slice a 0 0])[id]? =some (.pointer (some ⟨b,0,none⟩)):=by rw[Ab (by rw[hm.len];exact hil)];exact hβ
 have hext2:Ext (σ++ [Ob.lst [] s]) (β++ [Value.slice a 0 0]) ((σ++ [Ob.lst [] s]).set id (.box (cells.set off (.lsv σ.length s 0 0 0)))) (β++ [Value.slice a 0 0]):=Ext.setBox hσ1 _
 have hset:=yF _ _ _ hβ1
 have key:=h1.upd (w':=w) (L':=L) id (.box (cells.set off (.lsv σ.length s 0 0 0))) (.pointer (some ⟨b,0,none⟩)) (Le.refl _ _) (by rw[hset];exact hext2) (fun k=>k=b)
  (fun j o' x' k hj ho' hx' hk e=>by subst e;exact h1.apart j id o' _ x' _ k hj ho' hx' hσ1 hβ1 hk rfl)
  (fun k e=>by subst e;exact h1.mine id _ _ k hσ1 hβ1 rfl)
  (fun k hk=>⟨rfl,rfl⟩) rfl rfl rfl rfl h1.lim ?_ (fun k hk=>by simpa[excl]using hk.symm)
 .rw[hset,Dc _ _ hil]at key
  rw[Dc _ _ hil]at hext2
  exact⟨_,key,hext1.trans hext2⟩
 .rw[hset]
  refine⟨b,arr,T,fz,rfl,hh,hf,hl, ?_⟩
  refine All2.of (by rw[E8];exact hall.length) fun k p z hp hz=> ?_
  rcases wL hp with ⟨rfl,rfl,_⟩|⟨hne,hp'⟩
  .rw[hy]at hz;cases hz
   rw[hyv]
   refine⟨a,0,rfl,⟨A2 _,A2 _⟩,fun q=>by omega,.inr ⟨[], ?_,A2 _,fun _=>⟨a,0, ?_,rfl,A2 _,fun q=>by omega⟩⟩⟩
   .rw[Dc _ _ hil,Ai (by simp)];simp
   .rw[<-hm.len];simp
  .obtain⟨z',hz',rz⟩:=hall.get _ _ hp'
   rw[hz]at hz';cases hz'
   exact rz.mono (Le.refl _ _) (hext1.trans hext2)
theorem xC0 {c:Ctx} {w:World} {L:Nat->Nat} {σ:St} {β:List Value} {id off s:Nat} {cells:List V} (hm:Mem c w L σ β) (hs:0<s) (hσ:σ[id]? =some (.box cells)) (hc:cells[off]? =some (.sl .full [])):
  ∃x,Mem c w L (σ.set id (.box (cells.set off (.sl (.app σ.length) [])))++ [.app 0 s]) (β++ [x])/\Ext σ β (σ.set id (.box (cells.set off (.sl (.app σ.length) [])))++ [.app 0 s]) (β++ [x]):=by
 have hil:id<σ.length:=(A1.1 hσ).1
 obtain⟨x0,hβ⟩: ∃x0,β[id]? =some x0:=⟨_,A0 (by rw[hm.len];exact hil)⟩
 obtain⟨b,arr,T,fz,rfl,hh,hf,hl,hall⟩:=hm.objs id _ _ hσ hβ
 obtain⟨y,hy,ry⟩:=hall.get _ _ hc
 have ry':RdP w L (.sl .full []) y:=ry
 obtain⟨a,cap,hyv,_,hcap⟩:=ry'.len
 have hcap0:=hcap rfl
 simp only[D7]at hcap0 hyv
 subst hcap0
 have h1:=hm.own (n:=0) (a:=a) hs
 have hext1:=Ext.push σ β hm.len (.app 0 s) (.slice a 0 0)
 have hσ1:(σ++ [Ob.app 0 s])[id]? =some (.box cells):=by rw[Ab hil];exact hσ
 have hβ1:(β++ [Value.slice a 0 0])[id]? =some (.pointer (some ⟨b,0,none⟩)):=by rw[Ab (by rw[hm.len];exact hil)];exact hβ
 have hext2:Ext (σ++ [Ob.app 0 s]) (β++ [Value.slice a 0 0]) ((σ++ [Ob.app 0 s]).set id (.box (cells.set off (.sl (.app σ.length) [])))) (β++ [Value.slice a 0 0]):=Ext.setBox hσ1 _
 have hset:=yF _ _ _ hβ1
 have key:=h1.upd (w':=w) (L':=L) id (.box (cells.set off (.sl (.app σ.length) []))) (.pointer (some ⟨b,0,none⟩)) (Le.refl _ _) (by rw[hset];exact hext2) (fun k=>k=b)
  (fun j o' x' k hj ho' hx' hk e=>by subst e;exact h1.apart j id o' _ x' _ k hj ho' hx' hσ1 hβ1 hk rfl)
  (fun k e=>by subst e;exact h1.mine id _ _ k hσ1 hβ1 rfl)
  (fun k hk=>⟨rfl,rfl⟩) rfl rfl rfl rfl h1.lim ?_ (fun k hk=>by simpa[excl]using hk.symm)
 .rw[hset,Dc _ _ hil]at key
  rw[Dc _ _ hil]at hext2
  exact⟨_,key,hext1.trans hext2⟩
 .rw[hset]
  refine⟨b,arr,T,fz,rfl,hh,hf,hl, ?_⟩
  refine All2.of (by rw[E8];exact hall.length) fun k p z hp hz=> ?_
  rcases wL hp with ⟨rfl,rfl,_⟩|⟨hne,hp'⟩
  .rw[hy]at hz;cases hz
   rw[hyv]
   refine⟨.sl0 .ro a 0 (fun h=>by cases h) (fun _ h=>by cases h),0,s, ?_,A3 _,fun _=> ?_,fun r h=>by simp at h⟩
   .rw[Dc _ _ hil,Ai (by simp)];simp
   .rw[<-hm.len];simp
  .obtain⟨z',hz',rz⟩:=hall.get _ _ hp'
   rw[hz]at hz';cases hz'
   exact rz.mono (Le.refl _ _) (hext1.trans hext2)
def zB5 (cells:List V) (s off n:Nat):List (List V):=(List.range n).map fun i=>((cells.drop (off+i*s)).take s).map dem
def frzB (id:Nat) (cells:List V):V->V
 | .bsv i s off n=>if i=id/\0<s/\off+n*s<=cells.length/\((cells.drop off).take (n*s)).all zg3=true then .sl .ro (zB5 cells s off n)else .bsv i s off n
 |v=>v
theorem yB5 {cells:List V} {s off n:Nat} (h:off+n*s<=cells.length):uni s (zB5 cells s off n):=fun r hr=>by
 obtain⟨i,hi,rfl⟩:=Ac.1 hr
 have hi:=C7.1 hi
 have:(i+1)*s<=n*s:=Ao _ hi
 rw[An,Bj]at this
 rw[Aq,C2,Ei]
 omega
theorem xC4 {c:Ctx} {w:World} {L:Nat->Nat} {σ:St} {β:List Value} {id:Nat} {cells:List V} (hm:Mem c w L σ β) (hσ:σ[id]? =some (.box cells)):
  ∃L',Mem c w L' (σ.set id .dead) β/\Le w L w L'/\Ext σ β (σ.set id .dead) β/\(∀v x,RdS w L σ β v x->RdS w L' (σ.set id .dead) β (frzB id cells v) x):=by
 have hil:id<σ.length:=(A1.1 hσ).1
 obtain⟨x0,hβ⟩: ∃x0,β[id]? =some x0:=⟨_,A0 (by rw[hm.len];exact hil)⟩
 obtain⟨b,arr,T,fz,rfl,hh,hf,hl,hall⟩:=hm.objs id _ _ hσ hβ
 have hle:Le w L w (yY L b cells.length):=by
  refine⟨fun k=> ?_,fun _ _ _=>rfl⟩
  simp only[yY]
  split
  .rename_i hk;subst hk;omega
  .exact A2 _
 have hext:Ext σ β (σ.set id .dead) β:=by
  refine⟨fun _ _ h=>h,fun i n s' h=> ?_,fun i rs s' h=> ?_,fun i h=> ?_⟩
  .have q:id≠i:=fun q=>by subst q;rw[hσ]at h;cases h
   exact⟨n,by rw[Ad q];exact h,A2 _,fun _=>rfl⟩
  .have q:id≠i:=fun q=>by subst q;rw[hσ]at h;cases h
   exact .inr ⟨rs,by rw[Ad q];exact h,A2 _,fun _=>rfl⟩
  .by_cases q:id=i
   .subst q;exact Ak hil
   .rw[Ad q];exact h
 have hLo: ∀k,k≠b->yY L b cells.length k=L k:=fun k h=>if_neg h
 have inv: ∀i o,(σ.set id .dead)[i]? =some o->(i=id/\o= .dead)∨(i≠id/\σ[i]? =some o):=fun i o h=>by
  rcases wL h with ⟨rfl,rfl,_⟩|⟨hne,h2⟩
  .exact .inl ⟨rfl,rfl⟩
  .exact .inr ⟨hne,h2⟩
 refine⟨yY L b cells.length,⟨by simp[hm.len],fun i o x ho hx=> ?_,fun i j o o' x x' k hij ho hx ho' hx' hb=> ?_,fun i o x k ho hx hb=> ?_,fun k hb hx=> ?_,hm.le.trans hle,hm.size,hm.os,hm.tape,hm.output,hm.drawn,fun k hb=> ?_,hm.ext.trans hext,hm.tab⟩,hle,hext,fun v x r=> ?_⟩
 .rcases inv i o ho with ⟨_,rfl⟩|⟨hne,h2⟩
  .trivial
  .exact(hm.objs i o x h2 hx).step hle hext fun k hk=>⟨rfl,hLo k fun e=>by subst e;exact hm.apart i id o _ x _ k hne h2 hx hσ hβ hk rfl⟩
 .rcases inv i o ho with ⟨_,rfl⟩|⟨hne,h2⟩
  .simp[excl]at hb
  .rcases inv j o' ho' with ⟨_,rfl⟩|⟨hne',h3⟩
   .simp[excl]
   .exact hm.apart i j o o' x x' k hij h2 hx h3 hx' hb
 .rcases inv i o ho with ⟨_,rfl⟩|⟨hne,h2⟩
  .simp[excl]at hb
  .exact hm.mine i o x k h2 hx hb
 .obtain⟨e1,e2⟩:=hm.same k hb hx
  refine⟨e1, ?_⟩
  rw[hLo k fun q=> ?_]
  .exact e2
  .subst q
   rcases hm.mine id _ _ k hσ hβ rfl with h|h
   .omega
   .exact hx h
 .rw[hLo k fun q=> ?_]
  .exact hm.lim k hb
  .subst q
   have:=(hm.objs id _ _ hσ hβ).excl_lt (b:=k) rfl
   omega
 .have std:=r.mono hle hext
  cases v with
  |bsv i s off n=>
   simp only[frzB]
   split
   .rename_i hc
    obtain⟨rfl,hs,hlen,hp⟩:=hc
    obtain⟨b',hb',rfl⟩:=r
    rw[hβ]at hb';cases hb'
    have hu:=yB5 (s:=s) (off:=off) (n:=n) hlen
    have hrl:(zB5 cells s off n).length=n:=by simp[zB5]
    have key:RdP w (yY L b cells.length) (.sl .ro (zB5 cells s off n)) (.slice (some ⟨b,off,none⟩) (zB5 cells s off n).length n):=by
     refine .of_flat hs hu (by rw[hrl];simpa[yY]using hlen) (by rw[hrl];exact A2 _) (fun _=>by simp) (fun q=>by cases q) fun k v hk=> ?_
     have hkl:k<n*s:=by rw[<-hrl,<-yA hu];exact(A1.1 hk).1
     have hi:k/s<n:=by rw[Cj hs];exact hkl
     have hj:k%s<s:=D1 _ hs
     have hk':k=k/s*s+k%s:=by rw[Bw];exact(Di k s).symm
     rw[hk',yM _ _ hu hj]at hk
     simp only[zB5,Az,Cw hi,B3,As,Ae,if_pos hj,B0,B6]at hk
     obtain⟨v0,hv0,rfl⟩:=hk
     have hidx:off+k/s*s+k%s=off+k:=by omega
     rw[hidx]at hv0
     obtain⟨z,hz,rz⟩:=hall.get _ _ hv0
     rw[Aj]at hz
     refine⟨z,by simp only[World.cell?,hh];simpa using hz,(RdC.dem rz ?_).mono hle⟩
     rw[Af]at hp
     refine hp _ (Av.2 ⟨k, ?_⟩)
     rw[Ae,if_pos hkl,B0]
     exact hv0
    rw[hrl]at key
    exact key
   .exact std
  |_=>exact std
inductive Frz:List V->St->List V->St->Prop
 |refl (vs:List V) (σ:St):Frz vs σ vs σ
 |step (id s:Nat) (rows:List (List V)) {vs vs':List V} {σ σ':St} (hσ:σ[id]? =some (.lst rows s)) (hp:xW rows=true) (h:Frz (vs.map (frzS id rows)) (zl7 id rows σ) vs' σ'):Frz vs σ vs' σ'
 |nil (id off s:Nat) (cells:List V) {vs vs':List V} {σ σ':St} (hs:0<s) (hσ:σ[id]? =some (.box cells)) (hc:cells[off]? =some (.sl .full [])) (h:Frz vs (σ.set id (.box (cells.set off (.lsv σ.length s 0 0 0)))++ [.lst [] s]) vs' σ'):Frz vs σ vs' σ'
 |box (id:Nat) (cells:List V) {vs vs':List V} {σ σ':St} (hσ:σ[id]? =some (.box cells)) (h:Frz (vs.map (frzB id cells)) (σ.set id .dead) vs' σ'):Frz vs σ vs' σ'
 |nilv (i s:Nat) {vs vs':List V} {σ σ':St} (hs:0<s) (hv:vs[i]? =some (.sl .full [])) (h:Frz (vs.set i (.lsv σ.length s 0 0 0)) (σ++ [.lst [] s]) vs' σ'):Frz vs σ vs' σ'
theorem Frz.ok {c:Ctx} {w:World} {vs vs':List V} {σ σ':St} (h:Frz vs σ vs' σ'): ∀{L:Nat->Nat} {β xs:List Value},Mem c w L σ β->All2 (RdS w L σ β) vs xs->
  ∃L' β',Mem c w L' σ' β'/\Le w L w L'/\Ext σ β σ' β'/\All2 (RdS w L' σ' β') vs' xs:=by
 induction h with
 |refl vs σ=>exact fun hm ha=>⟨_,_,hm,Le.refl _ _,Ext.refl _ _,ha⟩
 |step id s rows hσ hp _ ih=>
  intro L β xs hm ha
  obtain⟨h1,h2,h3,h4⟩:=yW1 hm hσ hp
  obtain⟨L',β',h5,h6,h7,h8⟩:=ih h1 (All2.map_l (f:=frzS id rows) (fun _ _ q=>h4 _ _ q) ha)
  exact⟨L',β',h5,h2.trans h6,h3.trans h7,h8⟩
 |nil id off s cells hs hσ hc _ ih=>
  intro L β xs hm ha
  obtain⟨x,h1,h2⟩:=yY4 hm hs hσ hc
  obtain⟨L',β',h5,h6,h7,h8⟩:=ih h1 (ha.imp fun _ _ q=>q.mono (Le.refl _ _) h2)
  exact⟨L',β',h5,h6,h2.trans h7,h8⟩
 |box id cells hσ _ ih=>
  intro L β xs hm ha
  obtain⟨L1,h1,h2,h3,h4⟩:=xC4 hm hσ
  obtain⟨L',β',h5,h6,h7,h8⟩:=ih h1 (All2.map_l (f:=frzB id cells) (fun _ _ q=>h4 _ _ q) ha)
  exact⟨L',β',h5,h2.trans h6,h3.trans h7,h8⟩
 |nilv i s hs hv _ ih=>
  rename_i vs0 vs1 s0 s1 _
  intro L β xs hm ha
  obtain⟨x,hx,r⟩:=ha.get _ _ hv
  have hr:RdP w L (.sl .full []) x:=r
  obtain⟨ad,rfl⟩: ∃ad,x= .slice ad 0 0:=by
   cases hr with
   |sl0 g ad cap hg ha=>have:=hg rfl;subst this;exact⟨ad,rfl⟩
   |sl g rows s b o cap c ha hs hlen hlim hcap hg hc hr=>have:=hg rfl;subst this;exact⟨_,rfl⟩
  have h1:=hm.lstNil (a:=ad) hs
  have hext:=Ext.push _ _ hm.len (Ob.lst [] s) (.slice ad 0 0)
  have h2:All2 (RdS w L (s0++ [Ob.lst [] s]) (β++ [.slice ad 0 0])) (vs0.set i (.lsv s0.length s 0 0 0)) xs:=by
   refine All2.of (by rw[E8];exact ha.length) fun j p y hp hy=> ?_
   rcases wL hp with ⟨rfl,rfl,_⟩|⟨_,hp⟩
   .rw[hx]at hy;cases hy
    exact zP0 (w':=w) (L':=L) (s:=s) (rows:= []) (cap:=0) (a0:=ad) hm.len (A2 _) (fun h=>absurd h (by omega))
   .obtain⟨z,hz,rz⟩:=ha.get _ _ hp
    rw[hy]at hz;cases hz
    exact rz.mono (Le.refl _ _) hext
  obtain⟨L',β',h5,h6,h7,h8⟩:=ih h1 h2
  exact⟨L',β',h5,h6,hext.trans h7,h8⟩
def flatK:V->Bool
 | .bool _| .int _ _| .str _| .nilp| .u=>true
 | .raw _=>true
 | .sl _ rows=>rows.isEmpty
 |_=>false
def ye6:V->Bool
 | .agg cs=>cs.all flatK
 |v=>flatK v
def yD9:V->Bool
 | .tup vs=>vs.all ye6
 |v=>ye6 v
section
variable {w w':World} {L L':Nat->Nat} {σ σ':St} {β β':List Value}
theorem yD8 {v:V} {x:Value} (h:flatK v=true) (r:RdC w L [] [] v x):RdC w' L' σ' β' v x:=by
 cases v with
 |sl g rows=>
  have hr:rows= []:=by simpa[flatK]using h
  subst hr
  cases g with
  |app id=>obtain⟨_,n,s,h,_⟩:=r;simp at h
  |ro=>
   cases r with
   |sl0 _ a cap hg ha=>exact RdP.sl0 _ _ _ hg ha
   |sl _ _ s b o cap c ha hs hlen hlim hcap hg hc hr=>exact RdP.sl0 _ _ _ (fun q=>by cases q) (fun _=>by simp)
  |full=>
   cases r with
   |sl0 _ a cap hg ha=>exact RdP.sl0 _ _ _ hg ha
   |sl _ _ s b o cap c ha hs hlen hlim hcap hg hc hr=>exact RdP.sl0 _ _ _ hg (fun _=>by simp)
 |bool b=>cases r;exact RdP.bool _
 |int k n=>cases r;exact RdP.int _ _
 |str s=>cases r;exact RdP.str _
 |nilp=>cases r;exact RdP.nilp
 |raw v=>cases r with|raw _ h=>exact RdP.raw _ h
 |u=>exact r
 |_=>simp[flatK]at h
theorem yD7 {v:V} {x:Value} (h:ye6 v=true) (r:RdA w L [] [] v x):RdA w' L' σ' β' v x:=by
 cases v with
 |agg cs=>
  obtain⟨xs,hx,hc⟩:=r
  refine⟨xs,hx, ?_⟩
  clear hx
  simp only[ye6]at h
  induction cs generalizing xs with
  |nil=>cases xs with
   |nil=>trivial
   |cons _ _=>exact hc.elim
  |cons c cs ih=>cases xs with
   |nil=>exact hc.elim
   |cons y ys=>
    simp only[Am,A4]at h
    exact⟨yD8 h.1 hc.1,ih h.2 _ hc.2⟩
 |tup vs=>simp[ye6,flatK]at h
 |fn f c=>simp[ye6,flatK]at h
 |ifc t c=>simp[ye6,flatK]at h
 |_=>exact RdA.of_cell (yD8 (w:=w) (L:=L) h r)
theorem xq0 {v:V} {x:Value} (h:yD9 v=true) (r:RdS w L [] [] v x):RdS w' L' σ' β' v x:=by
 cases v with
 |tup vs=>
  obtain⟨xs,hx,hc⟩:=r
  refine⟨xs,hx, ?_⟩
  clear hx
  simp only[yD9]at h
  induction vs generalizing xs with
  |nil=>cases xs with
   |nil=>trivial
   |cons _ _=>exact hc.elim
  |cons c cs ih=>cases xs with
   |nil=>exact hc.elim
   |cons y ys=>
    simp only[Am,A4]at h
    exact⟨yD7 h.1 hc.1,ih h.2 _ hc.2⟩
 |u=>trivial
 |_=>exact RdS.of_a (yD7 (w:=w) (L:=L) h r)
end
theorem VC.view {P:Program} {c:Ctx} {f:FuncId} {caps args args' as1:List V} {σc σ1:St} {R:V->St->Prop} {K:V->St->Prop} (hc:VCalls P f args' [] R) (hb:wS P f=true) (hf:Frz (args++caps) σc as1 σ1)
  (hargs:All2 (argS (ren [] σ1.length)) args' as1) (hR: ∀r s,R r s->s= []/\yD9 r=true) (hk: ∀r,R r []->K r σc):VC P c (.fn f caps) args σc K:=by
 refine⟨f,caps,rfl,.inl ⟨zB6 hb,fun w L βc vals hm hv=> ?_⟩⟩
 obtain⟨L1,β1,hm1,hle1,hext1,hv1⟩:=hf.ok hm hv
 have hbak:Bak (ren [] σ1.length) [] [] σ1 β1:=by
  have hge: ∀id,σ1.length<=ren [] σ1.length id:=fun id=>by simp[ren]
  refine⟨fun id x hx=> ?_,fun id n s hx=> ?_,fun id rows s hx=> ?_,fun id hx=> ?_⟩
  .have h1:=(A1.1 hx).1;have h2:=hge id;rw[hm1.len]at h1;omega
  all_goals
   have h1:=(A1.1 hx).1;have h2:=hge id;omega
 have hin:Mem (entry w L1 [] []) w L1 [] []:=
  ⟨rfl,fun i o x ho _=>by simp at ho,fun i j o o' x x' b _ ho _ _ _ _=>by simp at ho,fun i o x b ho _ _=>by simp at ho,fun b _ _=>⟨rfl,rfl⟩,Le.refl _ _,A2 _,rfl,rfl,rfl,A2 _,hm1.lim,Ext.refl _ _,hm1.tab.mono hm1.le⟩
 have hav:All2 (RdS w L1 [] []) args' vals:=by
  clear hf hc hk
  induction args' generalizing as1 vals with
  |nil=>cases as1 with
   |nil=>cases vals with
    |nil=>trivial
    |cons _ _=>exact hv1.elim
   |cons _ _=>exact hargs.elim
  |cons p args' ih=>cases as1 with
   |nil=>exact hargs.elim
   |cons q as=>cases vals with
    |nil=>exact hv1.elim
    |cons y ys=>
     refine⟨zv9 hbak hargs.1 hv1.1, ?_⟩
     clear ih
     have key: ∀(args' as:List V) (ys:List Value),All2 (argS (ren [] σ1.length)) args' as->All2 (RdS w L1 σ1 β1) as ys->All2 (RdS w L1 [] []) args' ys:=by
      intro args'
      induction args' with
      |nil=>intro as ys h1 h2;cases as with
       |nil=>cases ys with
        |nil=>trivial
        |cons _ _=>exact h2.elim
       |cons _ _=>exact h1.elim
      |cons p l ih=>intro as ys h1 h2;cases as with
       |nil=>exact h1.elim
       |cons q as=>cases ys with
        |nil=>exact h2.elim
        |cons y ys=>exact⟨zv9 hbak h1.1 h2.1,ih as ys h1.2 h2.2⟩
     exact key _ _ _ hargs.2 hv1.2
 refine(hc w L1 [] vals hin hav).mono fun e w' ⟨v,r,L2,σ',β',he,hRr,hle',hm',hrd⟩=> ?_
 obtain⟨rfl,hflat⟩:=hR r σ' hRr
 have hβ':β'= []:=B2 (by rw[hm'.len];rfl)
 subst hβ'
 have hsame: ∀b,b<w.heap.size->w'.heap[b]? =w.heap[b]? :=fun b hb=>(hm'.same b hb (by show b∉zi8 [] [];simp[zi8])).1
 have hsz:w.heap.size<=w'.heap.size:=hm'.size
 let L3:Nat->Nat:=fun b=>if b<w.heap.size then L b else L2 b
 have hL3: ∀b,b<w.heap.size->L3 b=L b:=fun b hb=>if_pos hb
 have hle3:Le w L w' L3:=by
  refine⟨fun b=> ?_,fun b o ho=> ?_⟩
  .by_cases hb:b<w.heap.size
   .rw[hL3 b hb];exact A2 _
   .rw[hm.lim b (by omega)];exact A3 _
  .have hb:b<w.heap.size:=by
    rcases Cf b w.heap.size with hb|hb
    .exact hb
    .rw[hm.lim b hb]at ho;omega
   exact za9 (hsame b hb) o
 refine⟨v,r,L3,σc,βc,he,hk r hRr, ?_,hle3,Ext.refl _ _,xq0 hflat hrd⟩
 refine⟨hm.len,fun i o x ho hx=>(hm.objs i o x ho hx).step hle3 (Ext.refl _ _) fun b hb=> ?_,hm.apart,hm.mine,fun b hb hx=> ?_,hm.le.trans hle3,Ay hm.size hsz,hm'.os.trans hm.os,hm'.tape.trans hm.tape,hm'.output.trans hm.output,Ay hm.drawn hm'.drawn,fun b hb=> ?_,hm.ext,hm.tab⟩
 .have hlt:=(hm.objs i o x ho hx).excl_lt hb
  exact⟨hsame b hlt,hL3 b hlt⟩
 .have hlt:=D0 hb hm.size
  rw[hsame b hlt,hL3 b hlt]
  exact hm.same b hb hx
 .show(if b<w.heap.size then L b else L2 b)=0
  rw[if_neg (by omega)]
  exact hm'.lim b hb
def evOp (P:Program) (e:Env) (σ:St):Op->R
 | .move x=> .ok (zF e x)
 | .assign x=> .ok (zF e x)
 | .pick x y z=>zF6 (zF e x) (zF e y) (zF e z)
 | .alloc t=>zk4 P t σ
 | .box _ x=>zN9 σ (zF e x)
 | .build t ps=>zw2 (za1 P t) (plcT P t) (ps.toList.map fun p=>(p.1,zF e p.2))
 | .buildSlice t n ps=>za7 ((elT P t).map (·.1)) n (ps.toList.map fun p=>(p.1,zF e p.2))
 | .load t x=>zg9 P t σ (zF e x)
 | .store t x y=>zs5 P t σ (zF e x) (zF e y)
 | .nilCheck x=>zV7 (zF e x)
 | .binOp op t x y _=>if zg2 y=true then zs4 op (eqK P t) (zF e x)else if zf0 y=true then zp4 op (zh4 P t) (zF e x)else zr5 op (eqK P t) (eqS P t) (zF e x) (zF e y)
 | .unOp op _ x=>evUn op (zF e x)
 | .convert t t' x=>zB7 (kdT P t) (kdT P t') (zF e x)
 | .slice t x lo hi none=>zm2 (arrT P t) (lenT P t) ((elT P t).map (·.1)) (zF e x) (lo.map (zF e)) (hi.map (zF e))
 | .slice t x (some lo) (some hi) (some mx)=>zp5 ((elT P t).map (·.1)) (zF e x) (zF e lo) (zF e hi) (zF e mx)
 | .fieldAddr t x f=>ze3 P t (zF e x) f
 | .field t x f=>zw4 (fldT P t f) (zF e x)
 | .indexAddr t x i=>zi0 (slcT P t) (arrT P t) (zF e x) (zF e i)
 | .index t x i=>zO0 (zF e x) (zF e i) (strT P t) (arrT P t)
 | .extract x i=>zl4 (zF e x) i
 | .makeFunc fn first caps=>zF5 fn first.size (caps.toList.map (zF e))
 | .makeSlice t l m=>zB9 (elT P t) (zelT P t) σ (zF e l) (zF e m)
 | .call ⟨.builtin .len,⟨[x]⟩,⟨[t]⟩⟩=>zV6 (lenT P t) (zF e x)
 | .call ⟨.builtin .append,⟨[x,y]⟩,⟨[t,t']⟩⟩=>zg8 (elT P t) (lenT P t') σ (zF e x) (zF e y)
 | .call ⟨.builtin .clear,⟨[x]⟩,⟨[t]⟩⟩=>zs2 ((elT P t).map (·.1)) (zelT P t) σ (zF e x)
 | .call ⟨.builtin .min,⟨xs⟩,_⟩=>zz3 false (xs.map (zF e))
 | .call ⟨.builtin .max,⟨xs⟩,_⟩=>zz3 true (xs.map (zF e))
 | .call ⟨.builtin .delete,⟨[x,k]⟩,⟨[t,_]⟩⟩=>zp3 (mapT P t) σ (zF e x) (zF e k)
 | .makeMap t r=>zl5 σ (zh4 P t) (r.map (zF e))
 | .lookup t x k ok=>xO (mapT P t) σ (zF e x) (zF e k) ok
 | .mapUpdate t x k v=>xK (mapT P t) σ (zF e x) (zF e k) (zF e v)
 | .insert t x k v=>xK (mapT P t) σ (zF e x) (zF e k) (zF e v)
 | .mapEntry t x k=>xQ (mapT P t) σ (zF e x) (zF e k)
 | .entryStore _ x s v=>xI σ (zF e x) (zF e s) (zF e v)
 | .range t x=>zw5 (zh4 P t) σ (zF e x)
 | .entry x=>zh9 σ (zF e x)
 | .makeInterface t x=>zV5 (yp1 P t) t (zF e x)
 | .next x false=>zh0 false σ (zF e x)
 |_=> .fail
def wV (P:Program) (e:Env) (σ:St):Op->R
 | .buildSlice t n ps=>wT ((elT P t).map (·.1)) n σ (ps.toList.map fun p=>(p.1,zF e p.2))
 | .makeSlice t l m=>zs3 (elT P t) (zelT P t) σ (zF e l) (zF e m)
 | .convert t t' x=>zw3 (kdT P t) (kdT P t') σ (zF e x)
 | .slice t x (some lo) none none=>zp6 (lenT P t) ((elT P t).map (·.1)) σ (zF e x) (zF e lo)
 | .call ⟨.builtin .append,⟨[x,y]⟩,⟨[t,t']⟩⟩=>zd9 (elT P t) (lenT P t') σ (zF e x) (zF e y)
 | .next x false=>zh0 true σ (zF e x)
 |op=>evOp P e σ op
def zd1 (e:Env) (d:Option Tmp):Bool:=match d with|some t=>(match e (100000+t)with| .tup []=>true|_=>false)|none=>false
def xL (P:Program) (d:Option Tmp) (e:Env) (σ:St) (op:Op):R:=if zd1 e d=true then wV P e σ op else evOp P e σ op
section
variable {P:Program} {c:Ctx} {nt:Nat} {e:Env} {σ:St} {a:Act} {w:World} {L:Nat->Nat} {β:List Value}
theorem yV6 (o:Oper) (h:Sim c nt e σ a w L β):ROk (evOp P e σ o.op) σ (Yield P c o a w L σ β):=by
 obtain⟨dst,op,ty,pos,aft,g⟩:=o
 show ROk (evOp P e σ op) σ _
 unfold evOp
 split
 .exact xG3 _ h
 .exact xg9 _ h
 .exact xG4 _ _ _ h
 .exact xt5 _ h
 .exact xQ8 _ _ h
 .exact xt6 _ _ h
 .exact yl8 _ _ _ h
 .exact xG1 _ _ h
 .exact xu6 _ _ _ h
 .exact yH3 _ h
 .split
  .rename_i hn;exact xu3 _ _ _ _ _ hn h
  .split
   .rename_i hn;exact xh4 _ _ _ _ _ hn h
   .exact xQ7 _ _ _ _ _ h
 .exact xV9 _ _ _ h
 .exact xF9 _ _ _ h
 .exact xu5 _ _ _ _ h
 .exact xh5 _ _ _ _ _ h
 .exact yw6 _ _ _ h
 .exact xu0 _ _ _ h
 .exact yP8 _ _ _ h
 .exact xQ9 _ _ _ h
 .exact yP7 _ _ h
 .exact xG0 _ _ _ h
 .exact xG2 _ _ _ h
 .exact xR1 _ _ h
 .exact xg8 _ _ _ _ h
 .exact xt7 _ _ h
 .exact xu2 _ _ false h
 .exact xu2 _ _ true h
 .exact xh0 _ _ _ _ h
 .exact yP9 _ _ h
 .exact xh3 _ _ _ _ h
 .exact yw7 _ _ _ _ h
 .exact xh1 _ _ _ _ h
 .exact yH2 _ _ _ h
 .exact yl9 _ _ _ _ h
 .exact xu4 _ _ h
 .exact xt9 _ h
 .exact xR0 _ _ h
 .exact yY9 _ _ h
 .trivial
theorem xp1 (o:Oper) (h:Sim c nt e σ a w L β):ROk (xL P o.dst e σ o.op) σ (Yield P c o a w L σ β):=by
 unfold xL
 split
 .obtain⟨dst,op,ty,pos,aft,g⟩:=o
  show ROk (wV P e σ op) σ _
  unfold wV
  split
  .exact yh1 _ _ _ h
  .exact xu1 _ _ _ h
  .exact xt8 _ _ _ h
  .exact xh6 _ _ _ h
  .exact yP6 _ _ _ _ h
  .exact yY9 _ _ h
  .exact yV6 ⟨dst,op,ty,pos,aft,g⟩ h
 .exact yV6 o h
def vput (nt:Nat) (d:Option Tmp) (v:V) (K:Env->St->Prop) (e:Env) (σ:St):Prop:=
 match d with
 |some t=>t<nt/\K (upd e t v) σ
 |none=>K e σ
def xb8 (p q:Prop):Prop:=p/\q
def vfin (nt:Nat) (d:Option Tmp) (r:R) (K:Env->St->Prop) (e:Env) (σ:St):Prop:=
 match r with
 | .fail=>False
 | .ok v=>vput nt d v K e σ
 | .need p v=>xb8 p (vput nt d v K e σ)
 | .st v σ'=>vput nt d v K e σ'
 | .needst p v σ'=>xb8 p (vput nt d v K e σ')
 | .all f=> ∀b,vput nt d (f b) K e σ
 | .any l=> ∀p∈l,vput nt d p.1 K e p.2
def vop (P:Program) (c:Ctx) (nt:Nat) (d:Option Tmp) (op:Op) (K:Env->St->Prop) (e:Env) (σ:St):Prop:=
 match op with
 | .call ⟨.value f,args,_⟩=>VC P c (zF e f) (args.toList.map (zF e)) σ (fun v σ'=>vput nt d v K e σ')
 |op=>vfin nt d (xL P d e σ op) K e σ
def vgrd (x:V) (want:Bool) (A B:Prop):Prop:=
 match x with
 | .bool b=>(b=want->A)/\(b≠want->B)
 | .tup []=>B
 |_=>False
def gdst (ops:List Oper) (j:Nat):Option Tmp:=(ops[j]?).bind (·.dst)
def vgd (g:Option (Nat×Bool)) (ops:List Oper) (e:Env) (A B:Prop):Prop:=
 match g with
 |none=>A
 |some (j,want)=>(match gdst ops j with|some t=>vgrd (e t) want A B|none=>False)
def vrun (P:Program) (c:Ctx) (nt:Nat) (ops:List Oper):List Oper->(Env->St->Prop)->Env->St->Prop
 | [],K,e,σ=>K e σ
 |o::rest,K,e,σ=>vgd o.guard ops e (vop P c nt o.dst o.op (vrun P c nt ops rest K) e σ) (vput nt o.dst (.tup []) (vrun P c nt ops rest K) e σ)
theorem Sim.put (h:Sim c nt e σ a w L β) {w':World} {L':Nat->Nat} {σ':St} {β':List Value} {v:V} {x:Value} (hm:Mem c w' L' σ' β') (hle:Le w L w' L') (hext:Ext σ β σ' β') (r:RdS w' L' σ' β' v x) (d:Option Tmp) (hd: ∀t,d=some t->t<nt):
  Sim c nt (match d with|some t=>upd e t v|none=>e) σ' (a.put d x) w' L' β':=by
 cases d with
 |none=>exact⟨hm,h.size,h.defs,fun t=>(h.env t).mono hle hext⟩
 |some d=>
  refine⟨hm,by simp[Act.put,h.size],by simp[Act.put,h.defs],fun t=> ?_⟩
  have hd':=hd d rfl
  simp only[upd,Act.put]
  by_cases ht:t=d
  .subst ht
   rw[if_pos rfl]
   have:(a.tmps.setIfInBounds t x).getD t undef=x:=by
    simp[Array.getD,h.size,hd']
   rw[this];exact r
  .rw[if_neg ht]
   have:(a.tmps.setIfInBounds d x).getD t undef=a.tmps.getD t undef:=by
    have hdt: ¬d=t:=fun q=>ht q.symm
    rw[Array.getD_eq_getD_getElem?,Array.getD_eq_getD_getElem?,Array.getElem?_setIfInBounds_ne hdt]
   rw[this];exact(h.env t).mono hle hext
def Lift (c:Ctx) (nt:Nat) (Q:Exit->Env->St->Prop):Exit->Act->World->Prop
 | .panic _,_,_| .outgrown,_,_| .goto _,_,_=>False
 |x,a,w=> ∃e σ L β,Sim c nt e σ a w L β/\Q x e σ
def VW (P:Program) (c:Ctx) (nt:Nat) (code:Code) (Q:Exit->Env->St->Prop) (e:Env) (σ:St):Prop:=
 ∀a w L β,Sim c nt e σ a w L β->code.wp P (Lift c nt Q) a w
theorem zA8 (h:Sim c nt e σ a w L β) {w':World} {L':Nat->Nat} {σ':St} {β':List Value} {v:V} {x:Value} (hm:Mem c w' L' σ' β') (hle:Le w L w' L') (hext:Ext σ β σ' β') (r:RdS w' L' σ' β' v x) {d:Option Tmp} {K:Env->St->Prop} (hK:vput nt d v K e σ'):
  ∃e',Sim c nt e' σ' (a.put d x) w' L' β'/\K e' σ':=by
 cases d with
 |none=>exact⟨e,h.put hm hle hext r none (fun t q=>by cases q),hK⟩
 |some t=>exact⟨upd e t v,h.put hm hle hext r (some t) (fun t' q=>by cases q;exact hK.1),hK.2⟩
theorem yz1 (o:Oper) {K:Env->St->Prop} {next:Act->World->Prop} {Q:Exit->Act->World->Prop} (h:Sim c nt e σ a w L β) (hK:vop P c nt o.dst o.op K e σ)
  (hn: ∀e' σ' a' w' L' β',Sim c nt e' σ' a' w' L' β'->K e' σ'->next a' w'):o.wp P a w next Q:=by
 have fin: ∀{r:R},ROk r σ (Yield P c o a w L σ β)->vfin nt o.dst r K e σ->o.wp P a w next Q:=by
  intro r hr hv
  have done: ∀{v σ'},Yield P c o a w L σ β v σ'->vput nt o.dst v K e σ'->o.wp P a w next Q:=by
   rintro v σ' ⟨x,w',L',β',hrun,hm,hle,hext,hrd⟩ hp
   obtain⟨e',hs,hk⟩:=zA8 h hm hle hext hrd hp
   unfold Oper.wp
   rcases hrun with hrun|⟨hrun,rfl⟩
   .rw[hrun];exact hn _ _ _ _ _ _ hs hk
   .rw[hrun];exact hn _ _ _ _ _ _ hs hk
  cases r with
  |fail=>exact hv.elim
  |ok v=>exact done hr hv
  |need p v=>exact done (hr hv.1) hv.2
  |st v σ'=>exact done hr hv
  |needst p v σ'=>exact done (hr hv.1) hv.2
  |all f=>obtain⟨b,hr⟩:=hr;exact done hr (hv b)
  |any l=>obtain⟨p,hp,hr⟩:=hr;exact done hr (hv p hp)
 unfold vop at hK
 split at hK
 .rename_i f args ts hop
  obtain⟨fid,caps,hf,hK⟩:=hK
  have hfv:=h.eval f
  rw[hf]at hfv
  obtain⟨xs,hx,hcaps⟩:=hfv
  have hargs:All2 (RdS w L σ β) (args.toList.map (zF e)++caps) (args.toList.map a.eval++xs):=by
   refine All2.append ?_ (hcaps.imp fun p q r=> ?_)
   .generalize args.toList=l
    induction l with
    |nil=>trivial
    |cons p l ih=>exact⟨h.eval p,ih⟩
   .exact RdS.of_cell (by cases p<;>first|exact r|exact r.elim)
  rcases hK with ⟨⟨fn,hfn,hname,hbody⟩,hcall⟩|hcall
  .have hrun:(execOp a.eval o).run P w= .ok (.enter fid (args.toList.map a.eval++xs).toArray) w:=by
    obtain⟨dst,op,ty,pos,aft,g⟩:=o
    simp only at hop
    subst hop
    have hbn: ¬fn.body=none:=by intro q;simp[q]at hbody
    have hne: ¬fn.name= "runtime.NumGoroutine" :=by simpa using hname
    have hsz:(Array.map a.eval args++xs.toArray)=(args.toList.map a.eval++xs).toArray:=by
     apply Array.ext';simp
    simp[execOp,resolve,hx,Deferred.ofValue,invoke,callFunc,hfn,hne,hbn,hsz]
   unfold Oper.wp
   rw[hrun]
   show Calls P fid _ w _
   refine(hcall w L β _ h.mem hargs).mono ?_
   rintro en w' ⟨v,r,L',σ',β',rfl,hp,hm,hle,hext,hrd⟩
   obtain⟨e',hs,hk⟩:=zA8 h hm hle hext hrd hp
   exact hn _ _ _ _ _ _ hs hk
  .obtain⟨v,r,w',L',σ',β',hrv,hp,hm,hle,hext,hrd⟩:=hcall w L β _ h.mem hargs
   have hrun:(execOp a.eval o).run P w= .ok (.value v) w':=by
    obtain⟨dst,op,ty,pos,aft,g⟩:=o
    simp only at hop
    subst hop
    have hsz:(Array.map a.eval args++xs.toArray)=(args.toList.map a.eval++xs).toArray:=by
     apply Array.ext';simp
    simp[execOp,resolve,hx,Deferred.ofValue,invoke,hsz,hrv]
   obtain⟨e',hs,hk⟩:=zA8 h hm hle hext hrd hp
   unfold Oper.wp
   rw[hrun]
   exact hn _ _ _ _ _ _ hs hk
 .exact fin (xp1 o h) hK
theorem zX5 {ops:List Oper} {j:Nat} {t:Tmp} (ht:gdst ops j=some t) (hv:RdS w L σ β (.tup []) (a.tmps.getD t undef)):yielded ops.toArray a.tmps j=none:=by
 obtain⟨xs,hx,hall⟩:=hv
 have hxs:xs= []:=by
  cases xs with
  |nil=>rfl
  |cons x xs=>exact hall.elim
 subst hxs
 unfold yielded
 unfold gdst at ht
 have ht':(ops.toArray[j]?).bind (·.dst)=some t:=by simpa using ht
 rw[ht']
 simp only[As]
 by_cases htl:t<a.tmps.size
 .rw[Ar htl]
  simp[Array.getD,htl]at hx
  rw[hx]
 .rw[Array.getElem?_eq_none (Nat.le_of_not_lt htl)]
theorem yz2 {ops:List Oper} {Q:Exit->Act->World->Prop}: ∀(l:List Oper) (K:Env->St->Prop) (e:Env) (σ:St) (a:Act) (w:World) (L:Nat->Nat) (β:List Value),Sim c nt e σ a w L β->vrun P c nt ops l K e σ->
  (∀e' σ' a' w' L' β',Sim c nt e' σ' a' w' L' β'->K e' σ'->Q .normal a' w')->wpList P ops.toArray Q l a w
 | [],K,e,σ,a,w,L,β,h,hK,hn=>hn _ _ _ _ _ _ h hK
 |o::rest,K,e,σ,a,w,L,β,h,hK,hn=>by
  have ih:=yz2 (ops:=ops) (Q:=Q) rest K
  have yes:vop P c nt o.dst o.op (vrun P c nt ops rest K) e σ->o.wp P a w (wpList P ops.toArray Q rest) Q∨(o.asks P a w/\LetsOut Q):=fun hv=>
   .inl (yz1 o h hv fun e' σ' a' w' L' β' hs hk=>ih e' σ' a' w' L' β' hs hk hn)
  have no:vput nt o.dst (.tup []) (vrun P c nt ops rest K) e σ->wpList P ops.toArray Q rest (a.put o.dst undef) w:=fun hv=>by
   obtain⟨e',hs,hk⟩:=zA8 h h.mem (Le.refl _ _) (Ext.refl _ _) (show RdS w L σ β (.tup []) undef from⟨[],rfl,trivial⟩) hv
   exact ih e' σ _ _ _ _ hs hk hn
  unfold vrun at hK
  unfold wpList
  unfold vgd at hK
  split at hK
  .rename_i hg
   rw[if_pos (by simp[Region.wanted,hg])]
   exact yes hK
  .rename_i j want hg
   split at hK
   .rename_i t ht
    have hv:=h.env t
    unfold vgrd at hK
    split at hK
    .rename_i b hb
     rw[hb]at hv
     have hv:=zc8 hv
     have hy:yielded ops.toArray a.tmps j=some b:=by
      unfold yielded
      unfold gdst at ht
      have ht':(ops.toArray[j]?).bind (·.dst)=some t:=by simpa using ht
      rw[ht']
      simp only[As]
      have htl:t<a.tmps.size:=by
       rcases Cf t a.tmps.size with q|q
       .exact q
       .simp[Array.getD,Nat.not_lt.2 q,undef]at hv
      rw[Ar htl]
      simp[Array.getD,htl]at hv
      rw[hv]
     by_cases hbw:b=want
     .rw[if_pos (by simp[Region.wanted,hg,hy,hbw])]
      exact yes (hK.1 hbw)
     .rw[if_neg (by simp[Region.wanted,hg,hy,hbw])]
      exact no (hK.2 hbw)
    .rename_i hb
     rw[hb]at hv
     rw[if_neg (by simp[Region.wanted,hg,zX5 ht hv])]
     exact no hK
    .exact hK.elim
   .exact hK.elim
def yK8 (x:V) (A B:Prop):Prop:=
 match x with
 | .bool b=>(b=true->A)/\(b=false->B)
 |_=>False
def xy2 (K:Env->St->Prop) (Q:Exit->Env->St->Prop):Exit->Env->St->Prop
 | .normal,e,σ=>K e σ
 |x,e,σ=>Q x e σ
def blkV (id:Nat) (Q:Exit->Env->St->Prop):Exit->Env->St->Prop
 | .exit id',e,σ=>if id'=id then Q .normal e σ else Q (.exit id') e σ
 |x,e,σ=>Q x e σ
def zy0 (P:Program) (c:Ctx) (nt:Nat):Code->(Exit->Env->St->Prop)->Env->St->Prop
 | .skip,Q,e,σ=>Q .normal e σ
 | .seq x y,Q,e,σ=>zy0 P c nt x (xy2 (zy0 P c nt y Q) Q) e σ
 | .cond x t f,Q,e,σ=>yK8 (zF e x) (zy0 P c nt t Q e σ) (zy0 P c nt f Q e σ)
 | .block id b,Q,e,σ=>zy0 P c nt b (blkV id Q) e σ
 | .exit id,Q,e,σ=>Q (.exit id) e σ
 | .ret,Q,e,σ=>Q .ret e σ
 | .label _,Q,e,σ=>Q .normal e σ
 | .region id ops draw,Q,e,σ=>if draw then VW P c nt (.region id ops true) Q e σ else vrun P c nt ops.toList ops.toList (Q .normal) e σ
 | .loop b,Q,e,σ=>VW P c nt (.loop b) Q e σ
 |_,_,_,_=>False
theorem zf4: ∀(code:Code) (Q:Exit->Env->St->Prop) (e:Env) (σ:St),zy0 P c nt code Q e σ->VW P c nt code Q e σ
 | .skip,Q,e,σ,h=>fun a w L β hs=>wp_skip ⟨e,σ,L,β,hs,h⟩
 | .seq x y,Q,e,σ,h=>fun a w L β hs=>by
  refine wp_seq (wp_mono (zf4 x _ e σ h a w L β hs) fun ex a' w' q=> ?_)
  cases ex with
  |normal=>obtain⟨e',σ',L',β',hs',hq⟩:=q;exact zf4 y Q e' σ' hq a' w' L' β' hs'
  |exit id=>exact q
  |goto l=>exact q
  |ret=>exact q
  |panic ch=>exact q
  |outgrown=>exact q
 | .cond x t f,Q,e,σ,h=>fun a w L β hs=>by
  unfold zy0 yK8 at h
  split at h
  .rename_i b hb
   have hv:=hs.eval x
   rw[hb]at hv
   exact wp_cond_split (zc8 hv) (fun hbt=>zf4 t Q e σ (h.1 hbt) a w L β hs) (fun hbf=>zf4 f Q e σ (h.2 hbf) a w L β hs)
  .exact h.elim
 | .block id b,Q,e,σ,h=>fun a w L β hs=>by
  refine wp_block (wp_mono (zf4 b _ e σ h a w L β hs) fun ex a' w' q=> ?_)
  cases ex with
  |exit id'=>
   obtain⟨e',σ',L',β',hs',hq⟩:=q
   change (if id'=id then Q .normal e' σ' else Q (.exit id') e' σ')at hq
   change (if id'=id then Lift c nt Q .normal a' w' else Lift c nt Q (.exit id') a' w')
   split
   .rename_i hid
    rw[if_pos hid]at hq
    exact⟨e',σ',L',β',hs',hq⟩
   .rename_i hid
    rw[if_neg hid]at hq
    exact⟨e',σ',L',β',hs',hq⟩
  |normal=>exact q
  |goto l=>exact q
  |ret=>exact q
  |panic ch=>exact q
  |outgrown=>exact q
 | .exit id,Q,e,σ,h=>fun a w L β hs=>wp_exit ⟨e,σ,L,β,hs,h⟩
 | .ret,Q,e,σ,h=>fun a w L β hs=>wp_ret ⟨e,σ,L,β,hs,h⟩
 | .label _,Q,e,σ,h=>fun a w L β hs=>wp_label ⟨e,σ,L,β,hs,h⟩
 | .region id ops draw,Q,e,σ,h=>fun a w L β hs=>by
  unfold zy0 at h
  cases draw with
  |true=>exact h a w L β hs
  |false=>
   refine wp_region_list (ops:=ops) ?_
   have:=yz2 (P:=P) (ops:=ops.toList) (Q:=Lift c nt Q) ops.toList (Q .normal) e σ a w L β hs (by simpa using h) fun e' σ' a' w' L' β' hs' hk=>⟨e',σ',L',β',hs',hk⟩
   simpa using this
 | .loop b,Q,e,σ,h=>h
 | .rangeFunc _ _ _ _,_,_,_,h=>h.elim
 | .scope _,_,_,_,h=>h.elim
 | .goto _,_,_,_,h=>h.elim
 | .refuse _,_,_,_,h=>h.elim
end
end Go.Vx
