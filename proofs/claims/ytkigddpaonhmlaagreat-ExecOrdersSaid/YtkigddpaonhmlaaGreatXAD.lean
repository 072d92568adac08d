/-
  Operations over trees: appends and literals of slices and structs.
  No condition: a library text; nothing of the program is named.
-/
import Derived.Test.YtkigddpaonhmlaaGreatXAC
set_option maxHeartbeats 8000000
namespace Go.Vx
open Go
section
variable {P:Program} {c:Ctx} {nt:Nat} {e:Env} {σ:St} {a:Act} {w:World} {L:Nat->Nat} {β:List Value} {o:Oper}
theorem zd8 {t:TypeId} {s by':Nat} (h:elT P t=some (s,by')): ∃el i z,P.underlying t=some (.slice el)/\P.info? el=some i/\i.zero=some z/\i.size=s/\i.bytes=by'/\z.cells.size=s/\0<s/\0<by':=by
 unfold elT at h
 split at h
 .rename_i el hu
  cases hi:P.info? el with
  |none=>simp[hi]at h
  |some i=>
   cases hz:i.zero with
   |none=>simp[hi,hz]at h
   |some z=>
    simp only[hi,hz,As]at h
    split at h
    .rename_i hc
     simp at h
     exact⟨el,i,z,hu,hi,hz,h.1,h.2,by rw[<-h.1];exact hc.1,by rw[<-h.1];exact hc.2.1,by rw[<-h.2];exact hc.2.2⟩
    .simp at h
 .simp at h
def za3 (rows:List (List V)) (lo m:Nat):List (List V):=((rows.drop lo).take m).map fun r=>r.map dem
def xW (rows:List (List V)):Bool:=rows.all fun r=>r.all zg3
def xM2 (rows:List (List V)) (s' s n lo m:Nat):Prop:=s'=s/\rows.length=n/\lo+m<=n/\xW ((rows.drop lo).take m)=true
def zD5 (k:Nat) (σ:St):V->Option (List (List V))
 | .sl _ rows=>if k=2 then some rows else none
 | .str s=>if k=1 then some (zP s)else none
 | .lsv id _ _ lo m=>if k=2 then(match σ[id]? with|some (.lst rows _)=>some (za3 rows lo m)|_=>none)else none
 |_=>none
def zm8 (σ:St):V->Prop
 | .lsv id s n lo m=>(match σ[id]? with|some (.lst rows s')=>xM2 rows s' s n lo m|_=>False)
 |_=>True
def zg8 (el:Option (Nat×Nat)) (k2:Nat) (σ:St) (x y:V):R:=
 match el,zD5 k2 σ y with
 |some (s,by'),some r2=>
  (match x with
  | .sl .full r1=> .needst (zm8 σ y/\(r1.length+r2.length)*by'<=140737488355328/\uni s r1/\uni s r2) (.sl (.app σ.length) (r1++r2)) (σ++ [.app (r1.length+r2.length) s])
  | .sl (.app id) r1=>(match σ[id]? with
   |some (.app n s')=> .needst (zm8 σ y/\r1.length=n/\s'=s/\(r1.length+r2.length)*by'<=140737488355328/\uni s r2) (.sl (.app id) (r1++r2)) (σ.set id (.app (n+r2.length) s'))
   |_=> .fail)
  | .lsv id s1 n lo m=>(match σ[id]? with
   |some (.lst rows s')=>
    if lo+m+r2.length<=n then .needst (zm8 σ y/\s1=s/\s'=s/\rows.length=n/\uni s r2) (.lsv id s n lo (m+r2.length)) (σ.set id (.lst (rows.take (lo+m)++r2++rows.drop (lo+m+r2.length)) s))
    else .needst (zm8 σ y/\s1=s/\s'=s/\rows.length=n/\uni s r2/\lo=0/\m=n/\(n+r2.length)*by'<=140737488355328) (.lsv id s (n+r2.length) 0 (n+r2.length)) (σ.set id (.lst (rows++r2) s))
   |_=> .fail)
  |_=> .fail)
 |_,_=> .fail
def zH2 (k:Nat) (σ:St):V->Option (List (List V))
 | .sl _ rows=>if k=2 then some rows else none
 | .str s=>if k=1 then some (zP s)else none
 | .lsv id _ _ lo m=>if k=2 then(match σ[id]? with|some (.lst rows _)=>some ((rows.drop lo).take m)|_=>none)else none
 |_=>none
def zv4 (σ:St):V->Prop
 | .lsv id s n lo m=>(match σ[id]? with|some (.lst rows s')=>s'=s/\rows.length=n/\lo+m<=n|_=>False)
 |_=>True
def zd9 (el:Option (Nat×Nat)) (k2:Nat) (σ:St) (x y:V):R:=
 match x with
 | .lsv id s1 n lo m=>(match el,zH2 k2 σ y with
  |some (s,by'),some r2=>(match σ[id]? with
   |some (.lst rows s')=>
    if lo+m+r2.length<=n then .needst (zv4 σ y/\s1=s/\s'=s/\rows.length=n/\uni s r2) (.lsv id s n lo (m+r2.length)) (σ.set id (.lst (rows.take (lo+m)++r2++rows.drop (lo+m+r2.length)) s))
    else .needst (zv4 σ y/\s1=s/\s'=s/\rows.length=n/\uni s r2/\lo=0/\m=n/\(n+r2.length)*by'<=140737488355328) (.lsv id s (n+r2.length) 0 (n+r2.length)) (σ.set id (.lst (rows++r2) s))
   |_=> .fail)
  |_,_=> .fail)
 |x=>match el,zD5 k2 σ y with
 |some (s,by'),some r2=>
  (match x with
  | .sl .full r1=> .needst (zm8 σ y/\(r1.length+r2.length)*by'<=140737488355328/\uni s r1/\uni s r2/\(r2= []->r1= [])) (.lsv σ.length s (r1.length+r2.length) 0 (r1.length+r2.length)) (σ++ [.lst (r1++r2) s])
  |_=> .fail)
 |_,_=> .fail
theorem yi7 {y:V} {x:Value} {r2:List (List V)} {s:Nat} {tx:TypeId} (hm:Mem c w L σ β) (hnd:zm8 σ y) (hy:zD5 (lenT P tx) σ y=some r2) (r:RdS w L σ β y x) (hs:0<s) (hu:uni s r2):
  ∃news,Src P s tx x r2.length news w/\All2 (RdP w L) r2.flatten news:=by
 unfold zD5 at hy
 split at hy
 .rename_i gg rows
  split at hy
  .rename_i h2
   cases hy
   obtain⟨el,hu'⟩:=zK6 h2
   exact(zv1 r).src hu' hs hu
  .cases hy
 .rename_i q
  split at hy
  .rename_i h1
   cases hy
   have h1:=yX1 h1
   have hx:=wK r
   subst hx
   by_cases hq:q= []
   .subst hq
    refine⟨[],⟨.inr h1,fun _=>rfl, ?_, ?_,by simp[zP],fun _ h=>by cases h⟩,trivial⟩
    .simp[Builtin.firstCells,zP]
    .simp[Builtin.firstCells,zP]
   .have hs1:s=1:=by
     obtain⟨b,rest,rfl⟩:=D4 hq
     exact(hu [.int .u8 b.toNat] (by simp[zP])).symm
    subst hs1
    have:=Src.ofString w h1 ⟨q.toArray⟩
    rw[zk7]at this
    have hl:(zP q).length=q.length:=by simp[zP]
    exact⟨_,by rw[hl];exact this,zo6 q⟩
  .cases hy
 .rename_i id s1 n lo m
  split at hy
  .rename_i h2
   obtain⟨el,hu'⟩:=zK6 h2
   split at hy
   .rename_i rows s' hσ
    cases hy
    simp only[zm8,hσ]at hnd
    obtain⟨rfl,hn,hlm,hp⟩:=hnd
    obtain⟨ad,cap,hv,hmc,hpos,hc⟩:=r
    have hcl:(za3 rows lo m).length=m:=by simp[za3];omega
    by_cases h0:m=0
    .subst h0
     have hnil:za3 rows lo 0= []:=by simp[za3]
     rw[hnil,hv]
     cases ad with
     |none=>exact⟨[],Src.ofNil w hu' cap,trivial⟩
     |some ad=>exact⟨[],Src.ofSlice w hu' ad 0 cap [] (by simp) (fun j u h=>by simp at h) (fun _ h=>by cases h),trivial⟩
    .rcases hc with hd|⟨rows2,hσ2,hn2,hb⟩
     .rw[hσ]at hd;cases hd
     .rw[hσ]at hσ2
      cases hσ2
      obtain⟨b0,c0,hβ,hcap,hlo,hadr⟩:=hb hn.symm
      clear hb hpos
      have hm0:0<m:=Nat.pos_of_ne_zero h0
      have hlc:lo<c0:=Nat.lt_of_sub_pos (D0 hm0 (hcap▸hmc.1))
      obtain⟨k0,rfl,rfl⟩:=hadr hlc
      clear hadr
      obtain⟨a2,cap2,e1,hcp2,hs2,hur,hok⟩:=hm.objs id _ _ hσ hβ
      cases e1
      obtain⟨b',arr,T,fz,e2,hh,_,hsz,_,hall⟩:=hok (Nat.lt_of_le_of_lt (A3 _) hlc)
      cases e2
      clear hok
      have hss:s'=s:=by
       have hlt:0<(za3 rows lo m).length:=by omega
       have h1:=hu _ (A8 hlt)
       simp only[za3,Ct,Aq,Ed,List.getElem_drop]at h1
       rw[<-h1];exact(hur _ (A8 _)).symm
      subst hss
      have hfl:=yA hur
      have hcf:=yA hu
      rw[hcl]at hcf
      have hml:(lo+m)*s'<=rows.length*s':=Ao _ (by omega)
      rw[An]at hml
      have hal:rows.length*s'<=arr.size:=by
       have:=hall.length
       have hl3:arr.toList.length=arr.size:=by simp
       rw[hfl,C2,hl3]at this
       omega
      have hget: ∀k v y,(za3 rows lo m).flatten[k]? =some v->arr[lo*s'+k]? =some y->RdP w L v y:=by
       intro k v y hk hy'
       have hkl:k<m*s':=by rw[<-hcf];exact(A1.1 hk).1
       have hi:k/s'<m:=by rw[Cj hs];exact hkl
       have hj:k%s'<s':=D1 _ hs
       have hk':k=k/s'*s'+k%s':=by rw[Bw];exact(Di k s').symm
       rw[hk',yM _ _ hu hj]at hk
       simp only[za3,Az,Ae,if_pos hi,B0]at hk
       have hlt:lo+k/s'<rows.length:=by omega
       rw[A0 hlt]at hk
       simp only[B3,As,Az,B6]at hk
       obtain⟨v0,hv0,rfl⟩:=hk
       have hf:rows.flatten[(lo+k/s')*s'+k%s']? =some v0:=by
        rw[yM _ _ hur hj,A0 hlt];exact hv0
       obtain⟨z,hz,rz⟩:=hall.get _ _ hf
       have hidx:(lo+k/s')*s'+k%s'=lo*s'+k:=by rw[An];omega
       rw[hidx,Ae,if_pos (by omega),Aj,hy']at hz
       cases hz
       refine RdC.dem rz ?_
       unfold xW at hp
       rw[Af]at hp
       have hin:rows[lo+k/s']∈(rows.drop lo).take m:=by
        rw[Av]
        exact⟨k/s',by rw[Ae,if_pos hi,B0,A0 hlt]⟩
       have:=hp _ hin
       rw[Af]at this
       exact this _ (Av.2 ⟨_,hv0⟩)
      have hnl:((arr.toList.drop (lo*s')).take (m*s')).length=m*s':=by simp;omega
      rw[hcl,hv]
      have hall2:All2 (RdP w L) (za3 rows lo m).flatten ((arr.toList.drop (lo*s')).take (m*s')):=by
       refine All2.of (by rw[hcf,hnl]) fun k v y hk hy'=>hget k v y hk ?_
       rw[Ae]at hy'
       split at hy'
       .rw[B0,Aj]at hy';exact hy'
       .cases hy'
      refine⟨_,Src.ofSlice w hu' ⟨k0,lo*s',none⟩ m cap _ hnl (fun j u hj=> ?_) (fun u hu2=> ?_),hall2⟩
      .rw[Ae]at hj
       split at hj
       .rw[B0,Aj]at hj
        rw[xS]
        simp only[World.cell?,hh]
        simpa using hj
       .cases hj
      .obtain⟨k,hk⟩:=Av.1 hu2
       have hkl:k<(za3 rows lo m).flatten.length:=by
        rw[hcf,<-hnl];exact(A1.1 hk).1
       obtain⟨z,hz,rz⟩:=hall2.get k _ (A0 hkl)
       rw[hk]at hz;cases hz
       exact rz.oneCell
   .cases hy
  .cases hy
 .cases hy
theorem xx4 {y:V} {x:Value} {r2:List (List V)} {s:Nat} {tx:TypeId} (hm:Mem c w L σ β) (hnd:zv4 σ y) (hy:zH2 (lenT P tx) σ y=some r2) (r:RdS w L σ β y x) (hs:0<s) (hu:uni s r2):
  ∃news,Src P s tx x r2.length news w/\All2 (RdC w L σ β) r2.flatten news:=by
 unfold zH2 at hy
 split at hy
 .rename_i gg rows
  split at hy
  .rename_i h2
   cases hy
   obtain⟨el,hu'⟩:=zK6 h2
   obtain⟨news,q1,q2⟩:=(zv1 r).src hu' hs hu
   exact⟨news,q1,q2.imp fun _ _=>RdC.of_pure⟩
  .cases hy
 .rename_i q
  split at hy
  .rename_i h1
   cases hy
   have h1:=yX1 h1
   have hx:=wK r
   subst hx
   by_cases hq:q= []
   .subst hq
    refine⟨[],⟨.inr h1,fun _=>rfl, ?_, ?_,by simp[zP],fun _ h=>by cases h⟩,trivial⟩
    .simp[Builtin.firstCells,zP]
    .simp[Builtin.firstCells,zP]
   .have hs1:s=1:=by
     obtain⟨b,rest,rfl⟩:=D4 hq
     exact(hu [.int .u8 b.toNat] (by simp[zP])).symm
    subst hs1
    have:=Src.ofString w h1 ⟨q.toArray⟩
    rw[zk7]at this
    have hl:(zP q).length=q.length:=by simp[zP]
    exact⟨_,by rw[hl];exact this,(zo6 q).imp fun _ _=>RdC.of_pure⟩
  .cases hy
 .rename_i id s1 n lo m
  split at hy
  .rename_i h2
   obtain⟨el,hu'⟩:=zK6 h2
   split at hy
   .rename_i rows s' hσ
    cases hy
    simp only[zv4,hσ]at hnd
    obtain⟨rfl,hn,hlm⟩:=hnd
    obtain⟨ad,cap,hv,hmc,hpos,hc⟩:=r
    have hcl:((rows.drop lo).take m).length=m:=by simp;omega
    by_cases h0:m=0
    .subst h0
     have hnil:(rows.drop lo).take 0= []:=by simp
     rw[hnil,hv]
     cases ad with
     |none=>exact⟨[],Src.ofNil w hu' cap,trivial⟩
     |some ad=>exact⟨[],Src.ofSlice w hu' ad 0 cap [] (by simp) (fun j u h=>by simp at h) (fun _ h=>by cases h),trivial⟩
    .rcases hc with hd|⟨rows2,hσ2,hn2,hb⟩
     .rw[hσ]at hd;cases hd
     .rw[hσ]at hσ2
      cases hσ2
      obtain⟨b0,c0,hβ,hcap,hlo,hadr⟩:=hb hn.symm
      clear hb hpos
      have hm0:0<m:=Nat.pos_of_ne_zero h0
      have hlc:lo<c0:=Nat.lt_of_sub_pos (D0 hm0 (hcap▸hmc.1))
      obtain⟨k0,rfl,rfl⟩:=hadr hlc
      clear hadr
      obtain⟨a2,cap2,e1,hcp2,hs2,hur,hok⟩:=hm.objs id _ _ hσ hβ
      cases e1
      obtain⟨b',arr,T,fz,e2,hh,_,hsz,_,hall⟩:=hok (Nat.lt_of_le_of_lt (A3 _) hlc)
      cases e2
      clear hok
      have hss:s'=s:=by
       have hlt:0<((rows.drop lo).take m).length:=by omega
       have h1:=hu _ (A8 hlt)
       simp only[Ed,List.getElem_drop]at h1
       rw[<-h1];exact(hur _ (A8 _)).symm
      subst hss
      have hfl:=yA hur
      have hcf:=yA hu
      rw[hcl]at hcf
      have hml:(lo+m)*s'<=rows.length*s':=Ao _ (by omega)
      rw[An]at hml
      have hal:rows.length*s'<=arr.size:=by
       have:=hall.length
       have hl3:arr.toList.length=arr.size:=by simp
       rw[hfl,C2,hl3]at this
       omega
      have hget: ∀k v y,((rows.drop lo).take m).flatten[k]? =some v->arr[lo*s'+k]? =some y->RdC w L σ β v y:=by
       intro k v y hk hy'
       have hkl:k<m*s':=by rw[<-hcf];exact(A1.1 hk).1
       have hi:k/s'<m:=by rw[Cj hs];exact hkl
       have hj:k%s'<s':=D1 _ hs
       have hk':k=k/s'*s'+k%s':=by rw[Bw];exact(Di k s').symm
       rw[hk',yM _ _ hu hj]at hk
       simp only[Ae,if_pos hi,B0]at hk
       have hlt:lo+k/s'<rows.length:=by omega
       rw[A0 hlt]at hk
       simp only[As]at hk
       have hf:rows.flatten[(lo+k/s')*s'+k%s']? =some v:=by
        rw[yM _ _ hur hj,A0 hlt];exact hk
       obtain⟨z,hz,rz⟩:=hall.get _ _ hf
       have hidx:(lo+k/s')*s'+k%s'=lo*s'+k:=by rw[An];omega
       rw[hidx,Ae,if_pos (by omega),Aj,hy']at hz
       cases hz
       exact rz
      have hnl:((arr.toList.drop (lo*s')).take (m*s')).length=m*s':=by simp;omega
      rw[hcl,hv]
      have hall2:All2 (RdC w L σ β) ((rows.drop lo).take m).flatten ((arr.toList.drop (lo*s')).take (m*s')):=by
       refine All2.of (by rw[hcf,hnl]) fun k v y hk hy'=>hget k v y hk ?_
       rw[Ae]at hy'
       split at hy'
       .rw[B0,Aj]at hy';exact hy'
       .cases hy'
      refine⟨_,Src.ofSlice w hu' ⟨k0,lo*s',none⟩ m cap _ hnl (fun j u hj=> ?_) (fun u hu2=> ?_),hall2⟩
      .rw[Ae]at hj
       split at hj
       .rw[B0,Aj]at hj
        rw[xS]
        simp only[World.cell?,hh]
        simpa using hj
       .cases hj
      .obtain⟨k,hk⟩:=Av.1 hu2
       have hkl:k<((rows.drop lo).take m).flatten.length:=by
        rw[hcf,<-hnl];exact(A1.1 hk).1
       obtain⟨z,hz,rz⟩:=hall2.get k _ (A0 hkl)
       rw[hk]at hz;cases hz
       exact rz.oneCell
   .cases hy
  .cases hy
 .cases hy
theorem zf2 {t tx ty el:TypeId} {i:TypeInfo} {base:Option Addr} {n cap:Nat} {x:Value} (ht:P.underlying t=some (.slice el)) (hi:P.info? el=some i) (hs:Src P i.size tx x 0 [] w) (hle:n<=cap):
  (Builtin.append_ #[t,tx] ty #[.slice base n cap,x]).run P w= .ok (.slice base n cap) w:=by
 have hc:=hs.cells
 have hl:=hs.len w
 rcases hs.kind with ⟨e',hk⟩|hk<;>cases base<;>
  simp[Builtin.append_,run_underlying ht,run_underlying hk,sizeOf,typeInfo,hi,hl,hle,hc,storeCells]
theorem zj9 {t tx ty el:TypeId} {i:TypeInfo} {b o n cap m:Nat} {x:Value} {news:List Value} {arr:Array Value} {T:TypeId} {fz:Nat×Nat} (ht:P.underlying t=some (.slice el)) (hi:P.info? el=some i) (hs:Src P i.size tx x m news w) (hle:n+m<=cap)
  (hh:w.heap[b]? =some (.cells arr T fz)) (hf:zq3 arr fz) (hfit:o+n*i.size+news.length<=arr.size):
  (Builtin.append_ #[t,tx] ty #[.slice (some ⟨b,o,none⟩) n cap,x]).run P w= .ok (.slice (some ⟨b,o,none⟩) (n+m) cap) (yK w b (.cells (xF arr (o+n*i.size) news) T fz)):=by
 have hc:=hs.cells
 have hl:=hs.len w
 have hst:=xR P b (o+n*i.size) T fz news 0 arr w hh hf (by omega) hs.one
 rw[Cb]at hst
 rcases hs.kind with ⟨e',hk⟩|hk<;>
  simp[Builtin.append_,run_underlying ht,run_underlying hk,sizeOf,typeInfo,hi,hl,hle,hc,xS,hst]
theorem yo2 {P:Program} {w:World} {L:Nat->Nat} {rows:List (List V)} {s cap:Nat} {base:Option Addr} {t el:TypeId} (ht:P.underlying t=some (.slice el)) (hs:0<s) (hu:uni s rows) (r:RdP w L (.sl .ro rows) (.slice base rows.length cap)):
  ∃olds,(Builtin.firstCells s rows.length (.slice base rows.length cap)).run P w.drew= .ok olds.toArray w.drew/\All2 (RdP w L) rows.flatten olds/\olds.length=rows.length*s:=by
 obtain⟨news,h1,h2⟩:=r.src ht hs hu
 exact⟨news,h1.cellsD,h2,h1.newsLen⟩
theorem yi3 {t tx ty el:TypeId} {i:TypeInfo} {z:Value} (hu:P.underlying t=some (.slice el)) (hi:P.info? el=some i) (hz:i.zero=some z) (hzs:z.cells.size=i.size) (hby:0<i.bytes)
  {base:Option Addr} {n cap k:Nat} {olds news:List Value} {y:Value} (hold:(Builtin.firstCells i.size n (.slice base n cap)).run P w.drew= .ok olds.toArray w.drew) (hlo:olds.length=n*i.size) (hsrc:Src P i.size tx y k news w)
  (hgt:cap<n+k) (hbound:(n+k)*i.bytes<=140737488355328):
  ∃(cap':Nat) (arr:Array Value),n+k<=cap'/\cap'*i.size<=arr.size/\arr.toList.take ((n+k)*i.size)=olds++news/\
   (Builtin.append_ #[t,tx] ty #[.slice base n cap,y]).run P w= .ok (.slice (some ⟨w.heap.size,0,none⟩) (n+k) cap') (w.drew.alloc (.cells arr el)):=by
 have hb:n+k<=140737488355328:=Ay (Nat.le_mul_of_pos_right _ hby) hbound
 have hr:=run_append_grow_src (P:=P) w t tx ty el i z hu hi hz base n cap olds hold y k news hsrc hgt (by omega) (growslice_fits hgt hbound)
 have hge:=grownCap_ge w (n+k) cap el
 refine⟨grownCap w (n+k) cap el,_,hge, ?_, ?_,hr⟩
 .have hm:grownCap w (n+k) cap el*i.size=(n+k)*i.size+(grownCap w (n+k) cap el - (n+k))*i.size:=by
   rw[<-An];congr 1;omega
  simp only[Array.size_append,List.size_toArray,Aw,size_zeroCells,hzs,hlo,hsrc.newsLen]
  rw[hm,An]
  exact A2 _
 .rw[Array.toList_append,Cv (by simp only[Aw,hlo,hsrc.newsLen];rw[An];exact A2 _)]
  rw[Au (by simp only[Aw,hlo,hsrc.newsLen];rw[An];exact A2 _)]
theorem yF4 {rows:List (List V)} {s cap:Nat} {a0:Option Addr} {t el:TypeId} (hu:P.underlying t=some (.slice el)) (hok:ObOk w L σ β (.lst rows s) (.slice a0 rows.length cap)):
  ∃olds,(Builtin.firstCells s rows.length (.slice a0 rows.length cap)).run P w.drew= .ok olds.toArray w.drew/\olds.length=rows.length*s/\All2 (RdC w L σ β) rows.flatten olds:=by
 obtain⟨a',cap',e,hcap,hs,hur,hx⟩:=hok
 cases e
 by_cases h0:0<cap
 .obtain⟨b,arr,T,fz,rfl,hh,_,hsz,_,hall⟩:=hx h0
  have hcm:rows.length*s<=cap*s:=Ao _ hcap
  have hl:(arr.toList.take (rows.length*s)).length=rows.length*s:=by simp;omega
  have hsrc:=Src.ofSlice (P:=P) (size:=s) w hu ⟨b,0,none⟩ rows.length cap (arr.toList.take (rows.length*s)) hl (fun j u hj=>by
   rw[Ae]at hj
   split at hj
   .rw[Aj]at hj
    rw[xS]
    simp only[World.cell?,hh]
    simpa using hj
   .cases hj) (fun u hu2=>by
   obtain⟨k,hk⟩:=Av.1 hu2
   have hkl:k<rows.flatten.length:=by
    rw[hall.length];exact(A1.1 hk).1
   obtain⟨z,hz,rz⟩:=hall.get k _ (A0 hkl)
   rw[hk]at hz;cases hz
   exact rz.oneCell)
  exact⟨_,hsrc.cellsD,hl,hall⟩
 .have hc0:cap=0:=by omega
  subst hc0
  have hr0:rows= []:=B2 (by omega)
  subst hr0
  cases a0 with
  |none=>exact⟨[],(Src.ofNil (P:=P) (size:=s) w hu 0).cellsD,by simp,trivial⟩
  |some a0=>exact⟨[],(Src.ofSlice (P:=P) (size:=s) w hu a0 0 0 [] (by simp) (fun j u h=>by simp at h) (fun _ h=>by cases h)).cellsD,by simp,trivial⟩
theorem yj1 {rows r2:List (List V)} {s p:Nat} (h: ∀r∈rows,r.length=s) (h2: ∀r∈r2,r.length=s) (hp:p+r2.length<=rows.length):
  (rows.take p++r2++rows.drop (p+r2.length)).flatten=putCells rows.flatten (p*s) r2.flatten:=by
 have h1: ∀q,q<=rows.length->(rows.take q).flatten=rows.flatten.take (q*s):=fun q hq=>by
  have e:rows.flatten=(rows.take q).flatten++(rows.drop q).flatten:=by rw[<-Bx,Bp]
  have hl:=yA (rows:=rows.take q) (s:=s) fun r hr=>h r (Bn hr)
  have hl2:(rows.take q).length=q:=by simp;omega
  rw[hl2]at hl
  rw[e,Cv (Cg hl.symm),Au (Cg hl)]
 have h3: ∀q,q<=rows.length->(rows.drop q).flatten=rows.flatten.drop (q*s):=fun q hq=>by
  have e:rows.flatten=(rows.take q).flatten++(rows.drop q).flatten:=by rw[<-Bx,Bp]
  have hl:=yA (rows:=rows.take q) (s:=s) fun r hr=>h r (Bn hr)
  have hl2:(rows.take q).length=q:=by simp;omega
  rw[hl2]at hl
  rw[e,List.drop_append_of_le_length (Cg hl.symm),Bs (Cg hl)]
  rfl
 have hf2:=yA h2
 unfold putCells
 rw[Bx,Bx,h1 p (by omega),h3 _ hp,hf2,An]
theorem xg8 {dst:Option Tmp} {ty:TypeId} {pos:String} {aft:Array Edge} {g:Option (Nat×Bool)} (t tx:TypeId) (x y:Operand) (h:Sim c nt e σ a w L β):
  ROk (zg8 (elT P t) (lenT P tx) σ (zF e x) (zF e y)) σ (Yield P c ⟨dst,.call ⟨.builtin .append, #[x,y], #[t,tx]⟩,ty,pos,aft,g⟩ a w L σ β):=by
 have hx:=h.eval x
 have hy:=h.eval y
 unfold zg8
 split
 .rename_i s by' r2 hel hr2
  obtain⟨el,i,z,hu,hi,hz,rfl,rfl,hzs,hs,hby⟩:=zd8 hel
  have rund: ∀{v w'},(Builtin.append_ #[t,tx] ty #[a.eval x,a.eval y]).run P w= .ok v w'->(execOp a.eval ⟨dst,.call ⟨.builtin .append, #[x,y], #[t,tx]⟩,ty,pos,aft,g⟩).run P w= .ok (.value v) w':=by
   intro v w' hr
   simp[execOp,resolve,invoke,builtin,hr]
  have grow: ∀{base:Option Addr} {n cap:Nat} {r1:List (List V)},zm8 σ (zF e y)->a.eval x= .slice base n cap->r1.length=n->RdP w L (.sl .ro r1) (.slice base n cap)->uni i.size r1->uni i.size r2->cap<n+r2.length->(n+r2.length)*i.bytes<=140737488355328->
    ∃xs cap',n+r2.length<=cap'/\All2 (RdP w L) (r1++r2).flatten xs/\ ∃arr:Array Value,cap'*i.size<=arr.size/\(∀(k:Nat) v,xs[k]? =some v->arr[k]? =some v)/\
     (execOp a.eval ⟨dst,.call ⟨.builtin .append, #[x,y], #[t,tx]⟩,ty,pos,aft,g⟩).run P w= .ok (.value (.slice (some ⟨w.heap.size,0,none⟩) (n+r2.length) cap')) (w.drew.alloc (.cells arr el)):=by
   intro base n cap r1 hnd hv hn hr1 hu1 hu2 hgt hbound
   subst hn
   obtain⟨news,hsrc,hall⟩:=yi7 (P:=P) h.mem hnd hr2 hy hs hu2
   obtain⟨olds,hold,hallo,hlo⟩:=yo2 hu hs hu1 hr1
   have hb:r1.length+r2.length<=140737488355328:=Ay (Nat.le_mul_of_pos_right _ hby) hbound
   have hr:=run_append_grow_src (P:=P) w t tx ty el i z hu hi hz base r1.length cap olds hold (a.eval y) r2.length news hsrc hgt (by omega) (growslice_fits hgt hbound)
   rw[<-hv]at hr
   have hge:=grownCap_ge w (r1.length+r2.length) cap el
   refine⟨olds++news,grownCap w (r1.length+r2.length) cap el,hge, ?_,_, ?_, ?_,rund hr⟩
   .rw[Bx];exact hallo.append hall
   .have hm:grownCap w (r1.length+r2.length) cap el*i.size=(r1.length+r2.length)*i.size+(grownCap w (r1.length+r2.length) cap el - (r1.length+r2.length))*i.size:=by
     rw[<-An];congr 1;omega
    simp only[Array.size_append,List.size_toArray,Aw,size_zeroCells,hzs,hlo,hsrc.newsLen]
    rw[hm,An]
    exact A2 _
   .intro k v hk
    have hkl:=(A1.1 hk).1
    rw[Dm (by simpa using hkl)]
    simpa using hk
  split
  ·
   rename_i r1 h1
   rw[h1]at hx
   rintro⟨hnd,hbound,hu1,hu2⟩
   have hx':RdP w L (.sl .full r1) (a.eval x):=hx
   obtain⟨base,cap,hv,hcl,hcf⟩:=hx'.len
   have hcap:=hcf rfl
   subst hcap
   by_cases h0:r2= []
   .subst h0
    obtain⟨news,hsrc,hall⟩:=yi7 (P:=P) h.mem hnd hr2 hy hs hu2
    have hn0:news= []:=B2 (by rw[hsrc.newsLen];simp)
    subst hn0
    have hr:=zf2 (P:=P) (ty:=ty) hu hi hsrc hcl (base:=base)
    rw[<-hv]at hr
    have hmem:=h.mem.own (s:=i.size) (n:=r1.length) (a:=base) hs
    refine⟨_,w,L,_,.inl (rund hr),by simpa using hmem,Le.refl _ _,Ext.push _ _ h.mem.len _ _, ?_⟩
    rw[B7]
    refine⟨RdP.weak hx',r1.length,i.size, ?_,A2 _,fun _=> ?_,hu1⟩
    .simp
    .rw[<-h.mem.len,hv];simp
   .have hpos:0<r2.length:=E3.2 h0
    obtain⟨xs,cap',hge,hall,arr,hsz,hxs,hrun⟩:=grow hnd hv rfl (by rw[<-hv];exact RdP.weak hx') hu1 hu2 (by omega) hbound
    have hd:=h.mem.drew
    have hlen:(r1++r2).length=r1.length+r2.length:=by simp
    obtain⟨hmem,hle,hrd⟩:=hd.1.appPush (s:=i.size) (cap:=cap') (rows:=r1++r2) (T:=el) hs (zb6 hu1 hu2) (hall.imp fun _ _=>RdP.mono hd.2) (by omega) hsz hxs
    rw[hlen]at hmem hrd
    refine⟨_,_,_,_,.inl hrun,hmem,hd.2.trans ?_,Ext.push _ _ h.mem.len _ _, ?_⟩
    .rw[hlen]at hle;exact hle
    .refine⟨hrd,r1.length+r2.length,i.size,by simp,by rw[hlen];exact A2 _,fun _=> ?_,zb6 hu1 hu2⟩
     rw[<-h.mem.len];simp
  .rename_i id r1 h1
   rw[h1]at hx
   split
   .rename_i n s' hσ
    rintro⟨hnd,rfl,rfl,hbound,hu2⟩
    obtain⟨hr1,n',s2,hσ',hle1,hβ,hu1⟩:=hx
    rw[hσ]at hσ'
    cases hσ'
    have hβx:=hβ rfl
    obtain⟨base,cap,hv,hcl,_⟩:=hr1.len
    by_cases h0:r2= []
    .subst h0
     obtain⟨news,hsrc,hall⟩:=yi7 (P:=P) h.mem hnd hr2 hy hs hu2
     have hn0:news= []:=B2 (by rw[hsrc.newsLen];simp)
     subst hn0
     have hr:=zf2 (P:=P) (ty:=ty) hu hi hsrc hcl (base:=base)
     rw[<-hv]at hr
     have hset:σ.set id (.app (r1.length+([]:List (List V)).length) i.size)=σ:=yF _ _ _ (by simpa using hσ)
     rw[hset]
     refine⟨_,w,L,β,.inl (rund hr),h.mem,Le.refl _ _,Ext.refl _ _, ?_⟩
     rw[B7]
     exact⟨hr1,r1.length,i.size,hσ,A2 _,hβ,hu1⟩
    .have hpos:0<r2.length:=E3.2 h0
     have hlen:(r1++r2).length=r1.length+r2.length:=by simp
     have hlt:id<σ.length:=(A1.1 hσ).1
     by_cases hroom:r1.length+r2.length<=cap
     .obtain⟨a',cap2,e1,hncap,hs2,hok⟩:=h.mem.objs id _ _ hσ hβx
      rw[hv]at e1;cases e1
      obtain⟨b,o',arr,T,fz,rfl,hh,hf,hsz,hL⟩:=hok (by omega)
      obtain⟨news,hsrc,hall⟩:=yi7 (P:=P) h.mem hnd hr2 hy hs hu2
      rw[hv]at hr1 hβx
      obtain⟨arr',T',fz',hh',hf',hfit,hmem,hle,hext,hrd⟩:=h.mem.appIn hσ hβx rfl hr1 hu1 hu2 hall hpos hroom
      have hr:=zj9 (P:=P) (ty:=ty) hu hi hsrc hroom hh' hf' hfit
      rw[<-hv]at hr
      refine⟨_,_,_,_,.inl (rund hr),hmem,hle,hext,hrd,r1.length+r2.length,i.size, ?_,by rw[hlen];exact A2 _,fun _=> ?_,zb6 hu1 hu2⟩
      .rw[Ak hlt]
      .rw[Ak (by rw[h.mem.len];exact hlt)]
     .obtain⟨xs,cap',hge,hall,arr,hsz,hxs,hrun⟩:=grow hnd hv rfl (by rw[<-hv];exact hr1) hu1 hu2 (by omega) hbound
      have hd:=h.mem.drew
      obtain⟨hmem,hle,hext,hrd⟩:=hd.1.appNew (cap:=cap') (rows:=r1++r2) (arr:=arr) (T:=el) hσ hβx hs (zb6 hu1 hu2) (hall.imp fun _ _=>RdP.mono hd.2) (by omega) (by omega) hsz hxs
      rw[hlen]at hmem hext hrd hle
      refine⟨_,_,_,_,.inl hrun,hmem,hd.2.trans hle,hext,hrd,r1.length+r2.length,i.size, ?_,by rw[hlen];exact A2 _,fun _=> ?_,zb6 hu1 hu2⟩
      .rw[Ak hlt]
      .rw[Ak (by rw[h.mem.len];exact hlt)];rfl
   .trivial
  .rename_i id s1 n lo m h1
   rw[h1]at hx
   obtain⟨ad,cap,hv,hmc,hpos,hc⟩:=hx
   split
   .rename_i rows s' hσ
    have cur:rows.length=n-> ∃b c0,β[id]? =some (.slice b n c0)/\cap=c0 - lo/\lo<=c0/\(lo<c0-> ∃k,b=some ⟨k,0,none⟩/\ad=some ⟨k,lo*s1,none⟩):=fun hn=>by
     rcases hc with hd|⟨rows2,hσ2,hn2,hb⟩
     .rw[hσ]at hd;cases hd
     .rw[hσ]at hσ2;cases hσ2;exact hb hn.symm
    have hlt:id<σ.length:=(A1.1 hσ).1
    split
    .rename_i hin
     rintro⟨hnd,rfl,rfl,hn,hu2⟩
     obtain⟨b0,c0,hβ,rfl,hlo,hadr⟩:=cur hn
     obtain⟨a2,cap2,e1,hcp2,hs2,hur,hok⟩:=h.mem.objs id _ _ hσ hβ
     cases e1
     clear hok cur hc
     obtain⟨news,hsrc,hall⟩:=yi7 (P:=P) h.mem hnd hr2 hy hs hu2
     by_cases h0:r2= []
     .subst h0
      have hn0:news= []:=B2 (by rw[hsrc.newsLen];simp)
      subst hn0
      have hr:=zf2 (P:=P) (ty:=ty) hu hi hsrc hmc.1 (base:=ad)
      rw[<-hv]at hr
      have hset:σ.set id (.lst (rows.take (lo+m)++ []++rows.drop (lo+m+([]:List (List V)).length)) i.size)=σ:=yF _ _ _ (by simp[hσ])
      rw[hset]
      refine⟨_,w,L,β,.inl (rund hr),h.mem,Le.refl _ _,Ext.refl _ _, ?_⟩
      exact⟨ad,c0 - lo,hv,hmc,hpos,.inr ⟨rows,hσ,Cg hn.symm,fun _=>⟨b0,c0,hβ,rfl,hlo,hadr⟩⟩⟩
     .have hp2:0<r2.length:=E3.2 h0
      clear hpos
      have hlc:lo<c0:=by clear hadr;omega
      obtain⟨k0,rfl,rfl⟩:=hadr hlc
      clear hadr
      have hlen2:(rows.take (lo+m)++r2++rows.drop (lo+m+r2.length)).length=rows.length:=by simp;omega
      have hoff:(lo+m)*i.size<=rows.length*i.size:=Ao _ (by omega)
      obtain⟨arr,T,fz,hh,hf,hfit,hmem,hle,hext⟩:=h.mem.lstPut (off:=(lo+m)*i.size) (vs:=r2.flatten) (rows2:=rows.take (lo+m)++r2++rows.drop (lo+m+r2.length)) hσ hβ (by omega)
       (hall.imp fun _ _=>RdC.of_pure) hoff (fun r hr=>by
        rcases B4.1 hr with hr|hr
        .rcases B4.1 hr with hr|hr
         .exact hur r (Bn hr)
         .exact hu2 r hr
        .exact hur r (D2 hr)) (yj1 hur hu2 (by omega)) (by rw[hlen2];exact A2 _) (by rw[hlen2];omega)
      have hset:β.set id (.slice (some ⟨k0,0,none⟩) (rows.take (lo+m)++r2++rows.drop (lo+m+r2.length)).length c0)=β:=yF _ _ _ (by rw[hlen2,hn];exact hβ)
      rw[hset]at hmem hext
      have hr:=zj9 (P:=P) (ty:=ty) (o:=lo*i.size) (n:=m) (cap:=c0 - lo) hu hi hsrc (by omega) hh hf (by rw[An]at hfit;exact hfit)
      rw[<-hv,<-An]at hr
      refine⟨_,_,_,_,.inl (rund hr),hmem,hle,hext, ?_⟩
      exact⟨_,c0 - lo,rfl,by omega,fun _=>⟨_,_,rfl⟩,.inr ⟨_,Ak hlt,by rw[hlen2];omega,fun _=>⟨_,c0,hβ,rfl,hlo,fun _=>⟨k0,rfl,rfl⟩⟩⟩⟩
    .rename_i hin
     rintro⟨hnd,rfl,rfl,hn,hu2,rfl,rfl,hbound⟩
     obtain⟨b0,c0,hβ,hcc,hlo,hadr⟩:=cur hn
     have hcc':c0=cap:=by rw[hcc,Nat.sub_zero]
     subst hcc'
     have hok0:=h.mem.objs id _ _ hσ hβ
     obtain⟨a2,cap2,e1,hcp2,hs2,hur,hok⟩:=hok0
     cases e1
     clear hok cur hc hpos
     obtain⟨news,hsrc,hall⟩:=yi7 (P:=P) h.mem hnd hr2 hy hs hu2
     have hlen2:(rows++r2).length=rows.length+r2.length:=by simp
     by_cases hroom:rows.length+r2.length<=c0
     .have hc0:0<c0:=by clear hadr;rw[Aa]at hin;omega
      obtain⟨k0,rfl,rfl⟩:=hadr hc0
      clear hadr
      obtain⟨arr,T,fz,hh,hf,hfit,hmem,hle,hext⟩:=h.mem.lstPut (off:=rows.length*i.size) (vs:=r2.flatten) (rows2:=rows++r2) hσ hβ (by omega)
       (hall.imp fun _ _=>RdC.of_pure) (A2 _) (zb6 hur hu2) (by
        unfold putCells
        rw[Bx,Au (by rw[yA hur];exact A2 _),Bs (by rw[yA hur];omega),B7]) (by rw[hlen2];omega) (by rw[hlen2];exact hroom)
      rw[Ca]at hv
      have hr:=zj9 (P:=P) (ty:=ty) (o:=0) (n:=rows.length) (cap:=c0) hu hi hsrc hroom hh hf (by rw[Aa];exact hfit)
      rw[<-hv,Aa]at hr
      rw[hlen2]at hmem hext
      refine⟨_,_,_,_,.inl (rund hr),hmem,hle,hext, ?_⟩
      exact⟨_,c0,rfl,⟨hroom,by omega⟩,fun _=>⟨_,_,rfl⟩,.inr ⟨_,Ak hlt,by rw[hlen2];exact A2 _,fun _=>⟨_,c0,Ak (by rw[h.mem.len];exact hlt),rfl,A3 _,fun _=>⟨k0,rfl,by rw[Ca]⟩⟩⟩⟩
     .obtain⟨olds,hold,hlo2,hallo⟩:=yF4 (P:=P) hu (h.mem.objs id _ _ hσ hβ)
      have had:ad=b0∨c0=0:=by
       by_cases h0:0<c0
       .obtain⟨k0,rfl,rfl⟩:=hadr h0
        exact .inl (by rw[Ca])
       .exact .inr (Nat.eq_zero_of_not_pos h0)
      clear hadr
      have hold2:(Builtin.firstCells i.size rows.length (.slice ad rows.length c0)).run P w.drew= .ok olds.toArray w.drew:=by
       rcases had with rfl|rfl
       .exact hold
       .have hr0:rows= []:=B2 (by omega)
        subst hr0
        have ho0:olds= []:=B2 (by rw[hlo2];simp)
        subst ho0
        cases ad with
        |none=>exact(Src.ofNil (P:=P) (size:=i.size) w hu 0).cellsD
        |some a0=>exact(Src.ofSlice (P:=P) (size:=i.size) w hu a0 0 0 [] (by simp) (fun j u h=>by simp at h) (fun _ h=>by cases h)).cellsD
      obtain⟨cap',arr,hge,hsz,htk,hr⟩:=yi3 (P:=P) (w:=w) (tx:=tx) (ty:=ty) hu hi hz hzs hby hold2 hlo2 hsrc (by omega) hbound
      rw[<-hv]at hr
      have hd:=h.mem.drew
      have hcells:All2 (RdC w.drew L σ β) (rows++r2).flatten (arr.toList.take ((rows++r2).length*i.size)):=by
       rw[hlen2,htk,Bx]
       exact(hallo.imp fun _ _=>RdC.mono hd.2 (Ext.refl _ _)).append (hall.imp fun _ _ q=>RdC.of_pure (q.mono hd.2))
      obtain⟨hmem,hle,hext⟩:=hd.1.lstRe (rows2:=rows++r2) (cap:=cap') (T:=el) hσ hβ hs (zb6 hur hu2) hcells (by omega) (by omega) hsz
      rw[hlen2]at hmem hext
      refine⟨_,_,_,_,.inl (rund hr),hmem,hd.2.trans hle,hext, ?_⟩
      exact⟨_,cap',rfl,⟨hge,by omega⟩,fun _=>⟨_,_,rfl⟩,.inr ⟨_,Ak hlt,by rw[hlen2];exact A2 _,fun _=>⟨_,cap',Ak (by rw[h.mem.len];exact hlt),rfl,A3 _,fun _=>⟨_,rfl,by rw[Ca];rfl⟩⟩⟩⟩
   .trivial
  .trivial
 .trivial
theorem yP6 {dst:Option Tmp} {ty:TypeId} {pos:String} {aft:Array Edge} {g:Option (Nat×Bool)} (t tx:TypeId) (x y:Operand) (h:Sim c nt e σ a w L β):
  ROk (zd9 (elT P t) (lenT P tx) σ (zF e x) (zF e y)) σ (Yield P c ⟨dst,.call ⟨.builtin .append, #[x,y], #[t,tx]⟩,ty,pos,aft,g⟩ a w L σ β):=by
 have hx:=h.eval x
 have hy:=h.eval y
 unfold zd9
 split
 .rename_i id s1 n lo m h1
  split
  .rename_i s by' r2 hel hr2
   obtain⟨el,i,z,hu,hi,hz,rfl,rfl,hzs,hs,hby⟩:=zd8 hel
   have rund: ∀{v w'},(Builtin.append_ #[t,tx] ty #[a.eval x,a.eval y]).run P w= .ok v w'->(execOp a.eval ⟨dst,.call ⟨.builtin .append, #[x,y], #[t,tx]⟩,ty,pos,aft,g⟩).run P w= .ok (.value v) w':=by
    intro v w' hr
    simp[execOp,resolve,invoke,builtin,hr]
   rw[h1]at hx
   obtain⟨ad,cap,hv,hmc,hpos,hc⟩:=hx
   split
   .rename_i rows s' hσ
    have cur:rows.length=n-> ∃b c0,β[id]? =some (.slice b n c0)/\cap=c0 - lo/\lo<=c0/\(lo<c0-> ∃k,b=some ⟨k,0,none⟩/\ad=some ⟨k,lo*s1,none⟩):=fun hn=>by
     rcases hc with hd|⟨rows2,hσ2,hn2,hb⟩
     .rw[hσ]at hd;cases hd
     .rw[hσ]at hσ2;cases hσ2;exact hb hn.symm
    have hlt:id<σ.length:=(A1.1 hσ).1
    split
    .rename_i hin
     rintro⟨hnd,rfl,rfl,hn,hu2⟩
     obtain⟨b0,c0,hβ,rfl,hlo,hadr⟩:=cur hn
     obtain⟨a2,cap2,e1,hcp2,hs2,hur,hok⟩:=h.mem.objs id _ _ hσ hβ
     cases e1
     clear hok cur hc
     obtain⟨news,hsrc,hall⟩:=xx4 (P:=P) h.mem hnd hr2 hy hs hu2
     by_cases h0:r2= []
     .subst h0
      have hn0:news= []:=B2 (by rw[hsrc.newsLen];simp)
      subst hn0
      have hr:=zf2 (P:=P) (ty:=ty) hu hi hsrc hmc.1 (base:=ad)
      rw[<-hv]at hr
      have hset:σ.set id (.lst (rows.take (lo+m)++ []++rows.drop (lo+m+([]:List (List V)).length)) i.size)=σ:=yF _ _ _ (by simp[hσ])
      rw[hset]
      refine⟨_,w,L,β,.inl (rund hr),h.mem,Le.refl _ _,Ext.refl _ _, ?_⟩
      exact⟨ad,c0 - lo,hv,hmc,hpos,.inr ⟨rows,hσ,Cg hn.symm,fun _=>⟨b0,c0,hβ,rfl,hlo,hadr⟩⟩⟩
     .have hp2:0<r2.length:=E3.2 h0
      clear hpos
      have hlc:lo<c0:=by clear hadr;omega
      obtain⟨k0,rfl,rfl⟩:=hadr hlc
      clear hadr
      have hlen2:(rows.take (lo+m)++r2++rows.drop (lo+m+r2.length)).length=rows.length:=by simp;omega
      have hoff:(lo+m)*i.size<=rows.length*i.size:=Ao _ (by omega)
      obtain⟨arr,T,fz,hh,hf,hfit,hmem,hle,hext⟩:=h.mem.lstPut (off:=(lo+m)*i.size) (vs:=r2.flatten) (rows2:=rows.take (lo+m)++r2++rows.drop (lo+m+r2.length)) hσ hβ (by omega)
       hall hoff (fun r hr=>by
        rcases B4.1 hr with hr|hr
        .rcases B4.1 hr with hr|hr
         .exact hur r (Bn hr)
         .exact hu2 r hr
        .exact hur r (D2 hr)) (yj1 hur hu2 (by omega)) (by rw[hlen2];exact A2 _) (by rw[hlen2];omega)
      have hset:β.set id (.slice (some ⟨k0,0,none⟩) (rows.take (lo+m)++r2++rows.drop (lo+m+r2.length)).length c0)=β:=yF _ _ _ (by rw[hlen2,hn];exact hβ)
      rw[hset]at hmem hext
      have hr:=zj9 (P:=P) (ty:=ty) (o:=lo*i.size) (n:=m) (cap:=c0 - lo) hu hi hsrc (by omega) hh hf (by rw[An]at hfit;exact hfit)
      rw[<-hv,<-An]at hr
      refine⟨_,_,_,_,.inl (rund hr),hmem,hle,hext, ?_⟩
      exact⟨_,c0 - lo,rfl,by omega,fun _=>⟨_,_,rfl⟩,.inr ⟨_,Ak hlt,by rw[hlen2];omega,fun _=>⟨_,c0,hβ,rfl,hlo,fun _=>⟨k0,rfl,rfl⟩⟩⟩⟩
    .rename_i hin
     rintro⟨hnd,rfl,rfl,hn,hu2,rfl,rfl,hbound⟩
     obtain⟨b0,c0,hβ,hcc,hlo,hadr⟩:=cur hn
     have hcc':c0=cap:=by rw[hcc,Nat.sub_zero]
     subst hcc'
     have hok0:=h.mem.objs id _ _ hσ hβ
     obtain⟨a2,cap2,e1,hcp2,hs2,hur,hok⟩:=hok0
     cases e1
     clear hok cur hc hpos
     obtain⟨news,hsrc,hall⟩:=xx4 (P:=P) h.mem hnd hr2 hy hs hu2
     have hlen2:(rows++r2).length=rows.length+r2.length:=by simp
     by_cases hroom:rows.length+r2.length<=c0
     .have hc0:0<c0:=by clear hadr;rw[Aa]at hin;omega
      obtain⟨k0,rfl,rfl⟩:=hadr hc0
      clear hadr
      obtain⟨arr,T,fz,hh,hf,hfit,hmem,hle,hext⟩:=h.mem.lstPut (off:=rows.length*i.size) (vs:=r2.flatten) (rows2:=rows++r2) hσ hβ (by omega)
       hall (A2 _) (zb6 hur hu2) (by
        unfold putCells
        rw[Bx,Au (by rw[yA hur];exact A2 _),Bs (by rw[yA hur];omega),B7]) (by rw[hlen2];omega) (by rw[hlen2];exact hroom)
      rw[Ca]at hv
      have hr:=zj9 (P:=P) (ty:=ty) (o:=0) (n:=rows.length) (cap:=c0) hu hi hsrc hroom hh hf (by rw[Aa];exact hfit)
      rw[<-hv,Aa]at hr
      rw[hlen2]at hmem hext
      refine⟨_,_,_,_,.inl (rund hr),hmem,hle,hext, ?_⟩
      exact⟨_,c0,rfl,⟨hroom,by omega⟩,fun _=>⟨_,_,rfl⟩,.inr ⟨_,Ak hlt,by rw[hlen2];exact A2 _,fun _=>⟨_,c0,Ak (by rw[h.mem.len];exact hlt),rfl,A3 _,fun _=>⟨k0,rfl,by rw[Ca]⟩⟩⟩⟩
     .obtain⟨olds,hold,hlo2,hallo⟩:=yF4 (P:=P) hu (h.mem.objs id _ _ hσ hβ)
      have had:ad=b0∨c0=0:=by
       by_cases h0:0<c0
       .obtain⟨k0,rfl,rfl⟩:=hadr h0
        exact .inl (by rw[Ca])
       .exact .inr (Nat.eq_zero_of_not_pos h0)
      clear hadr
      have hold2:(Builtin.firstCells i.size rows.length (.slice ad rows.length c0)).run P w.drew= .ok olds.toArray w.drew:=by
       rcases had with rfl|rfl
       .exact hold
       .have hr0:rows= []:=B2 (by omega)
        subst hr0
        have ho0:olds= []:=B2 (by rw[hlo2];simp)
        subst ho0
        cases ad with
        |none=>exact(Src.ofNil (P:=P) (size:=i.size) w hu 0).cellsD
        |some a0=>exact(Src.ofSlice (P:=P) (size:=i.size) w hu a0 0 0 [] (by simp) (fun j u h=>by simp at h) (fun _ h=>by cases h)).cellsD
      obtain⟨cap',arr,hge,hsz,htk,hr⟩:=yi3 (P:=P) (w:=w) (tx:=tx) (ty:=ty) hu hi hz hzs hby hold2 hlo2 hsrc (by omega) hbound
      rw[<-hv]at hr
      have hd:=h.mem.drew
      have hcells:All2 (RdC w.drew L σ β) (rows++r2).flatten (arr.toList.take ((rows++r2).length*i.size)):=by
       rw[hlen2,htk,Bx]
       exact(hallo.imp fun _ _=>RdC.mono hd.2 (Ext.refl _ _)).append (hall.imp fun _ _=>RdC.mono hd.2 (Ext.refl _ _))
      obtain⟨hmem,hle,hext⟩:=hd.1.lstRe (rows2:=rows++r2) (cap:=cap') (T:=el) hσ hβ hs (zb6 hur hu2) hcells (by omega) (by omega) hsz
      rw[hlen2]at hmem hext
      refine⟨_,_,_,_,.inl (rund hr),hmem,hd.2.trans hle,hext, ?_⟩
      exact⟨_,cap',rfl,⟨hge,by omega⟩,fun _=>⟨_,_,rfl⟩,.inr ⟨_,Ak hlt,by rw[hlen2];exact A2 _,fun _=>⟨_,cap',Ak (by rw[h.mem.len];exact hlt),rfl,A3 _,fun _=>⟨_,rfl,by rw[Ca];rfl⟩⟩⟩⟩
   .trivial
  .trivial
 split
 .rename_i s by' r2 hel hr2
  obtain⟨el,i,z,hu,hi,hz,rfl,rfl,hzs,hs,hby⟩:=zd8 hel
  have rund: ∀{v w'},(Builtin.append_ #[t,tx] ty #[a.eval x,a.eval y]).run P w= .ok v w'->(execOp a.eval ⟨dst,.call ⟨.builtin .append, #[x,y], #[t,tx]⟩,ty,pos,aft,g⟩).run P w= .ok (.value v) w':=by
   intro v w' hr
   simp[execOp,resolve,invoke,builtin,hr]
  split
  .rename_i r1 h1
   rw[h1]at hx
   rintro⟨hnd,hbound,hu1,hu2,hne⟩
   have hx':RdP w L (.sl .full r1) (a.eval x):=hx
   obtain⟨base,cap,hv,hcl,hcf⟩:=hx'.len
   have hcap:=hcf rfl
   subst hcap
   obtain⟨news,hsrc,hall⟩:=yi7 (P:=P) h.mem hnd hr2 hy hs hu2
   by_cases h0:r2= []
   .have h10:=hne h0
    subst h0 h10
    have hn0:news= []:=B2 (by rw[hsrc.newsLen];simp)
    subst hn0
    have hr:=zf2 (P:=P) (ty:=ty) hu hi hsrc hcl (base:=base)
    rw[<-hv]at hr
    have hmem:=h.mem.lstNil (s:=i.size) (a:=base) hs
    refine⟨_,w,L,_,.inl (rund hr),by simpa using hmem,Le.refl _ _,Ext.push _ _ h.mem.len _ _, ?_⟩
    refine⟨base,0,hv,⟨A2 _,A2 _⟩,fun q=>by simp at q,.inr ⟨[],by simp,by simp,fun _=>⟨base,0, ?_,rfl,A2 _,fun q=>by omega⟩⟩⟩
    rw[<-h.mem.len];simp
   .have hpos:0<r2.length:=E3.2 h0
    obtain⟨olds,hold,hallo,hlo⟩:=yo2 hu hs hu1 (show RdP w L (.sl .ro r1) (.slice base r1.length r1.length) by rw[<-hv];exact RdP.weak hx')
    obtain⟨cap',arr,hge,hsz,htk,hr⟩:=yi3 (P:=P) (w:=w) (tx:=tx) (ty:=ty) hu hi hz hzs hby hold hlo hsrc (by omega) hbound
    rw[<-hv]at hr
    have hd:=h.mem.drew
    have hlen2:(r1++r2).length=r1.length+r2.length:=by simp
    have hcells:All2 (RdC w.drew L σ β) (r1++r2).flatten (arr.toList.take ((r1++r2).length*i.size)):=by
     rw[hlen2,htk,Bx]
     exact(hallo.imp fun _ _ q=>RdC.of_pure (q.mono hd.2)).append (hall.imp fun _ _ q=>RdC.of_pure (q.mono hd.2))
    obtain⟨hmem,hle,hext⟩:=hd.1.lstPush (cap:=cap') (T:=el) hs (zb6 hu1 hu2) hcells (by omega) hsz
    rw[hlen2]at hmem hext
    refine⟨_,_,_,_,.inl (rund hr),hmem,hd.2.trans hle,hext, ?_⟩
    refine⟨_,cap',rfl,⟨hge,by omega⟩,fun _=>⟨_,_,rfl⟩,.inr ⟨r1++r2,by simp,by rw[hlen2];exact A2 _,fun _=>⟨_,cap', ?_,rfl,A3 _,fun _=>⟨_,rfl,by rw[Ca]⟩⟩⟩⟩
    rw[<-h.mem.len];simp
  .trivial
 .trivial
end
end Go.Vx
