/-
  Operations over trees: literals, slices of slices and strings, conversions, fields, function values.
  No condition: a library text; nothing of the program is named.
-/
import Derived.Test.YtefbicjgbaaieaaGreatPAB
set_option maxHeartbeats 8000000
namespace Go.Vx
open Go
section
variable {P:Program} {c:Ctx} {nt:Nat} {e:Env} {σ:St} {a:Act} {w:World} {L:Nat->Nat} {β:List Value} {o:Oper}
variable {t:TypeId}{tx:TypeId}{ty:TypeId}{el:TypeId}{cap:Nat}{x:Value}{r2:List (List V)}{i:TypeInfo}{base:Option Addr}{n:Nat}
theorem ze2 {s aa:Nat} (h:elT P t=some (s,aa)): ∃el i z,P.underlying t=some (.slice el)/\P.info? el=some i/\i.zero=some z/\i.size=s/\i.bytes=aa/\z.cells.size=s/\0<s/\0<aa:=by
 unfold elT at h
 split at h
 .rename_i el hu
  cases hi:P.info? el with
  |none=>simp[hi]at h
  |some i=>
   cases hz:i.zero with
   |none=>simp[hi,hz]at h
   |some z=>
    simp only[hi,hz,Ax]at h
    split at h
    .rename_i hc
     simp at h
     exact⟨el,i,z,hu,hi,hz,h.1,h.2,by rw[<-h.1];exact hc.1,by rw[<-h.1];exact hc.2.1,by rw[<-h.2];exact hc.2.2⟩
    .simp at h
 .simp at h
def zb0 (rows:List (List V)) (lo m:Nat):List (List V):=((rows.drop lo).take m).map fun r=>r.map dem
def xW (rows:List (List V)):Bool:=rows.all fun r=>r.all zg8
def xN8 (rows:List (List V)) (s' s n lo m:Nat):Prop:=s'=s/\rows.length=n/\lo+m<=n/\xW ((rows.drop lo).take m)=true
def zE5 (k:Nat) (σ:St):V->Option (List (List V))
 | .sl _ rows=>if k=2 then some rows else none
 | .str s=>if k=1 then some (zN s)else none
 | .lsv id _ _ lo m=>if k=2 then(match σ[id]? with|some (.lst rows _)=>some (zb0 rows lo m)|_=>none)else none
 |_=>none
def zo0 (σ:St):V->Prop
 | .lsv id s n lo m=>(match σ[id]? with|some (.lst rows s')=>xN8 rows s' s n lo m|_=>False)
 |_=>True
def zh2 (el:Option (Nat×Nat)) (k2:Nat) (σ:St) (x y:V):R:=
 match el,zE5 k2 σ y with
 |some (s,by'),some r2=>
  (match x with
  | .sl .full r1=> .needst (zo0 σ y/\(r1.length+r2.length)*by'<=140737488355328/\uni s r1/\uni s r2) (.sl (.app σ.length) (r1++r2)) (σ++ [.app (r1.length+r2.length) s])
  | .sl (.app id) r1=>(match σ[id]? with
   |some (.app n s')=> .needst (zo0 σ y/\r1.length=n/\s'=s/\(r1.length+r2.length)*by'<=140737488355328/\uni s r2) (.sl (.app id) (r1++r2)) (σ.set id (.app (n+r2.length) s'))
   |_=> .fail)
  | .lsv id s1 n lo m=>(match σ[id]? with
   |some (.lst rows s')=>
    if lo+m+r2.length<=n then .needst (zo0 σ y/\s1=s/\s'=s/\rows.length=n/\uni s r2) (.lsv id s n lo (m+r2.length)) (σ.set id (.lst (rows.take (lo+m)++r2++rows.drop (lo+m+r2.length)) s))
    else .needst (zo0 σ y/\s1=s/\s'=s/\rows.length=n/\uni s r2/\lo=0/\m=n/\(n+r2.length)*by'<=140737488355328) (.lsv id s (n+r2.length) 0 (n+r2.length)) (σ.set id (.lst (rows++r2) s))
   |_=> .fail)
  |_=> .fail)
 |_,_=> .fail
def zI0 (k:Nat) (σ:St):V->Option (List (List V))
 | .sl _ rows=>if k=2 then some rows else none
 | .str s=>if k=1 then some (zN s)else none
 | .lsv id _ _ lo m=>if k=2 then(match σ[id]? with|some (.lst rows _)=>some ((rows.drop lo).take m)|_=>none)else none
 |_=>none
def zw7 (σ:St):V->Prop
 | .lsv id s n lo m=>(match σ[id]? with|some (.lst rows s')=>s'=s/\rows.length=n/\lo+m<=n|_=>False)
 |_=>True
def ze3 (el:Option (Nat×Nat)) (k2:Nat) (σ:St) (x y:V):R:=
 match x with
 | .lsv id s1 n lo m=>(match el,zI0 k2 σ y with
  |some (s,by'),some r2=>(match σ[id]? with
   |some (.lst rows s')=>
    if lo+m+r2.length<=n then .needst (zw7 σ y/\s1=s/\s'=s/\rows.length=n/\uni s r2) (.lsv id s n lo (m+r2.length)) (σ.set id (.lst (rows.take (lo+m)++r2++rows.drop (lo+m+r2.length)) s))
    else .needst (zw7 σ y/\s1=s/\s'=s/\rows.length=n/\uni s r2/\lo=0/\m=n/\(n+r2.length)*by'<=140737488355328) (.lsv id s (n+r2.length) 0 (n+r2.length)) (σ.set id (.lst (rows++r2) s))
   |_=> .fail)
  |_,_=> .fail)
 |x=>match el,zE5 k2 σ y with
 |some (s,by'),some r2=>
  (match x with
  | .sl .full r1=> .needst (zo0 σ y/\(r1.length+r2.length)*by'<=140737488355328/\uni s r1/\uni s r2/\(r2= []->r1= [])) (.lsv σ.length s (r1.length+r2.length) 0 (r1.length+r2.length)) (σ++ [.lst (r1++r2) s])
  |_=> .fail)
 |_,_=> .fail
theorem yg9 {y:V} {s:Nat} (hm:Mem c w L σ β) (an:zo0 σ y) (hy:zE5 (lenT P tx) σ y=some r2) (r:RdS w L σ β y x) (hs:0<s) (hu:uni s r2):
  ∃news,Src P s tx x r2.length news w/\All2 (RdP w L) r2.flatten news:=by
 unfold zE5 at hy
 split at hy
 .rename_i gg rows
  split at hy
  .rename_i h2
   cases hy
   obtain⟨el,ab⟩:=zL3 h2
   exact(zw4 r).src ab hs hu
  .cases hy
 .rename_i q
  split at hy
  .rename_i h1
   cases hy
   have h1:=yY2 h1
   have hx:=wM r
   subst hx
   by_cases hq:q= []
   .subst hq
    refine⟨[],⟨.inr h1,fun _=>rfl, ?_, ?_,by simp[zN],fun _ h=>by cases h⟩,tV⟩
    .simp[Builtin.firstCells,zN]
    .simp[Builtin.firstCells,zN]
   .have az:s=1:=by
     obtain⟨b,rest,rfl⟩:=D6 hq
     exact(hu [.int .u8 b.toNat] (by simp[zN])).symm
    subst az
    have:=Src.ofString w h1 ⟨q.toArray⟩
    rw[zl7]at this
    have hl:(zN q).length=q.length:=by simp[zN]
    exact⟨_,by rw[hl];exact this,zp8 q⟩
  .cases hy
 .rename_i id s1 n lo m
  split at hy
  .rename_i h2
   obtain⟨el,ab⟩:=zL3 h2
   split at hy
   .rename_i rows s' hσ
    cases hy
    simp only[zo0,hσ]at an
    obtain⟨rfl,hn,aH,hp⟩:=an
    obtain⟨ad,cap,hv,a1,ao,hc⟩:=r
    have aq:(zb0 rows lo m).length=m:=by simp[zb0];omega
    by_cases h0:m=0
    .subst h0
     have ar:zb0 rows lo 0= []:=by simp[zb0]
     rw[ar,hv]
     cases ad with
     |none=>exact⟨[],Src.ofNil w ab cap,tV⟩
     |some ad=>exact⟨[],Src.ofSlice w ab ad 0 cap [] sm (fun j u h=>by simp at h) (fun _ h=>by cases h),tV⟩
    .rcases hc with hd|⟨rows2,au,aI,hb⟩
     .rw[hσ]at hd;cases hd
     .rw[hσ]at au
      cases au
      obtain⟨b0,c0,hβ,hcap,aJ,ah⟩:=hb hn.symm
      clear hb ao
      have a6:0<m:=Nat.pos_of_ne_zero h0
      have av:lo<c0:=Nat.lt_of_sub_pos (D3 a6 (hcap▸a1.1))
      obtain⟨k0,rfl,rfl⟩:=ah av
      clear ah
      obtain⟨a2,aF,e1,aG,aK,aj,hok⟩:=hm.objs id _ _ hσ hβ
      cases e1
      obtain⟨b',arr,T,fz,e2,hh,_,aL,_,ai⟩:=hok (Nat.lt_of_le_of_lt (A7 _) av)
      cases e2
      clear hok
      have a7:s'=s:=by
       have ae:0<(zb0 rows lo m).length:=om
       have h1:=hu _ (Ac ae)
       simp only[zb0,Er,Aw,List.getElem_take,List.getElem_drop]at h1
       rw[<-h1];exact(aj _ (Ac _)).symm
      subst a7
      have a8:=zV aj
      have ag:=zV hu
      rw[aq]at ag
      have aA:(lo+m)*s'<=rows.length*s':=Ao _ om
      rw[Ap]at aA
      have aP:rows.length*s'<=arr.size:=by
       have:=ai.length
       have aB:arr.toList.length=arr.size:=sm
       rw[a8,Cd,aB]at this
       omega
      have aw: ∀k v y,(zb0 rows lo m).flatten[k]? =some v->arr[lo*s'+k]? =some y->RdP w L v y:=by
       intro k v y hk aa
       have ak:k<m*s':=by rw[<-ag];exact(A5.1 hk).1
       have hi:k/s'<m:=by rw[Cq hs];exact ak
       have hj:k%s'<s':=Cv _ hs
       have aC:k=k/s'*s'+k%s':=by rw[Bo];exact(Dl k s').symm
       rw[aC,yI _ _ hu hj]at hk
       simp only[zb0,B3,Ai,if_pos hi,B4]at hk
       have ae:lo+k/s'<rows.length:=om
       rw[A4 ae]at hk
       simp only[B9,Ax,B3,Bb]at hk
       obtain⟨v0,ax,rfl⟩:=hk
       have hf:rows.flatten[(lo+k/s')*s'+k%s']? =some v0:=by
        rw[yI _ _ aj hj,A4 ae];exact ax
       obtain⟨z,hz,rz⟩:=ai.get _ _ hf
       have ay:(lo+k/s')*s'+k%s'=lo*s'+k:=by rw[Ap];omega
       rw[ay,Ai,if_pos om,Aq,aa]at hz
       cases hz
       refine RdC.dem rz ?_
       unfold xW at hp
       rw[Aj]at hp
       have aD:rows[lo+k/s']∈(rows.drop lo).take m:=by
        rw[Ay]
        exact⟨k/s',by rw[Ai,if_pos hi,B4,A4 ae]⟩
       have:=hp _ aD
       rw[Aj]at this
       exact this _ (Ay.2 ⟨_,ax⟩)
      have al:((arr.toList.drop (lo*s')).take (m*s')).length=m*s':=by simp;omega
      rw[aq,hv]
      have af:All2 (RdP w L) (zb0 rows lo m).flatten ((arr.toList.drop (lo*s')).take (m*s')):=by
       refine All2.of (by rw[ag,al]) fun k v y hk aa=>aw k v y hk ?_
       rw[Ai]at aa
       split at aa
       .rw[B4,Aq]at aa;exact aa
       .cases aa
      refine⟨_,Src.ofSlice w ab ⟨k0,lo*s',none⟩ m cap _ al (fun j u hj=> ?_) (fun u aE=> ?_),af⟩
      .rw[Ai]at hj
       split at hj
       .rw[B4,Aq]at hj
        rw[xR]
        simp only[World.cell?,hh]
        simpa using hj
       .cases hj
      .obtain⟨k,hk⟩:=Ay.1 aE
       have ak:k<(zb0 rows lo m).flatten.length:=by
        rw[ag,<-al];exact(A5.1 hk).1
       obtain⟨z,hz,rz⟩:=af.get k _ (A4 ak)
       rw[hk]at hz;cases hz
       exact rz.oneCell
   .cases hy
  .cases hy
 .cases hy
theorem xy8 {y:V} {s:Nat} (hm:Mem c w L σ β) (an:zw7 σ y) (hy:zI0 (lenT P tx) σ y=some r2) (r:RdS w L σ β y x) (hs:0<s) (hu:uni s r2):
  ∃news,Src P s tx x r2.length news w/\All2 (RdC w L σ β) r2.flatten news:=by
 unfold zI0 at hy
 split at hy
 .rename_i gg rows
  split at hy
  .rename_i h2
   cases hy
   obtain⟨el,ab⟩:=zL3 h2
   obtain⟨news,q1,q2⟩:=(zw4 r).src ab hs hu
   exact⟨news,q1,q2.imp fun _ _=>RdC.of_pure⟩
  .cases hy
 .rename_i q
  split at hy
  .rename_i h1
   cases hy
   have h1:=yY2 h1
   have hx:=wM r
   subst hx
   by_cases hq:q= []
   .subst hq
    refine⟨[],⟨.inr h1,fun _=>rfl, ?_, ?_,by simp[zN],fun _ h=>by cases h⟩,tV⟩
    .simp[Builtin.firstCells,zN]
    .simp[Builtin.firstCells,zN]
   .have ay:s=1:=by
     obtain⟨b,rest,rfl⟩:=D6 hq
     exact(hu [.int .u8 b.toNat] (by simp[zN])).symm
    subst ay
    have:=Src.ofString w h1 ⟨q.toArray⟩
    rw[zl7]at this
    have hl:(zN q).length=q.length:=by simp[zN]
    exact⟨_,by rw[hl];exact this,(zp8 q).imp fun _ _=>RdC.of_pure⟩
  .cases hy
 .rename_i id s1 n lo m
  split at hy
  .rename_i h2
   obtain⟨el,ab⟩:=zL3 h2
   split at hy
   .rename_i rows s' hσ
    cases hy
    simp only[zw7,hσ]at an
    obtain⟨rfl,hn,aF⟩:=an
    obtain⟨ad,cap,hv,az,ao,hc⟩:=r
    have aq:((rows.drop lo).take m).length=m:=by simp;omega
    by_cases h0:m=0
    .subst h0
     have ar:(rows.drop lo).take 0= []:=sm
     rw[ar,hv]
     cases ad with
     |none=>exact⟨[],Src.ofNil w ab cap,tV⟩
     |some ad=>exact⟨[],Src.ofSlice w ab ad 0 cap [] sm (fun j u h=>by simp at h) (fun _ h=>by cases h),tV⟩
    .rcases hc with hd|⟨rows2,au,aG,hb⟩
     .rw[hσ]at hd;cases hd
     .rw[hσ]at au
      cases au
      obtain⟨b0,c0,hβ,hcap,aH,ah⟩:=hb hn.symm
      clear hb ao
      have a1:0<m:=Nat.pos_of_ne_zero h0
      have av:lo<c0:=Nat.lt_of_sub_pos (D3 a1 (hcap▸az.1))
      obtain⟨k0,rfl,rfl⟩:=ah av
      clear ah
      obtain⟨a2,aD,e1,aE,aI,aj,hok⟩:=hm.objs id _ _ hσ hβ
      cases e1
      obtain⟨b',arr,T,fz,e2,hh,_,aJ,_,ai⟩:=hok (Nat.lt_of_le_of_lt (A7 _) av)
      cases e2
      clear hok
      have a6:s'=s:=by
       have af:0<((rows.drop lo).take m).length:=om
       have h1:=hu _ (Ac af)
       simp only[List.getElem_take,List.getElem_drop]at h1
       rw[<-h1];exact(aj _ (Ac _)).symm
      subst a6
      have a7:=zV aj
      have ag:=zV hu
      rw[aq]at ag
      have a8:(lo+m)*s'<=rows.length*s':=Ao _ om
      rw[Ap]at a8
      have aK:rows.length*s'<=arr.size:=by
       have:=ai.length
       have aA:arr.toList.length=arr.size:=sm
       rw[a7,Cd,aA]at this
       omega
      have aw: ∀k v y,((rows.drop lo).take m).flatten[k]? =some v->arr[lo*s'+k]? =some y->RdC w L σ β v y:=by
       intro k v y hk aa
       have ak:k<m*s':=by rw[<-ag];exact(A5.1 hk).1
       have hi:k/s'<m:=by rw[Cq hs];exact ak
       have hj:k%s'<s':=Cv _ hs
       have aB:k=k/s'*s'+k%s':=by rw[Bo];exact(Dl k s').symm
       rw[aB,yI _ _ hu hj]at hk
       simp only[Ai,if_pos hi,B4]at hk
       have af:lo+k/s'<rows.length:=om
       rw[A4 af]at hk
       simp only[Ax]at hk
       have hf:rows.flatten[(lo+k/s')*s'+k%s']? =some v:=by
        rw[yI _ _ aj hj,A4 af];exact hk
       obtain⟨z,hz,rz⟩:=ai.get _ _ hf
       have ax:(lo+k/s')*s'+k%s'=lo*s'+k:=by rw[Ap];omega
       rw[ax,Ai,if_pos om,Aq,aa]at hz
       cases hz
       exact rz
      have al:((arr.toList.drop (lo*s')).take (m*s')).length=m*s':=by simp;omega
      rw[aq,hv]
      have ae:All2 (RdC w L σ β) ((rows.drop lo).take m).flatten ((arr.toList.drop (lo*s')).take (m*s')):=by
       refine All2.of (by rw[ag,al]) fun k v y hk aa=>aw k v y hk ?_
       rw[Ai]at aa
       split at aa
       .rw[B4,Aq]at aa;exact aa
       .cases aa
      refine⟨_,Src.ofSlice w ab ⟨k0,lo*s',none⟩ m cap _ al (fun j u hj=> ?_) (fun u aC=> ?_),ae⟩
      .rw[Ai]at hj
       split at hj
       .rw[B4,Aq]at hj
        rw[xR]
        simp only[World.cell?,hh]
        simpa using hj
       .cases hj
      .obtain⟨k,hk⟩:=Ay.1 aC
       have ak:k<((rows.drop lo).take m).flatten.length:=by
        rw[ag,<-al];exact(A5.1 hk).1
       obtain⟨z,hz,rz⟩:=ae.get k _ (A4 ak)
       rw[hk]at hz;cases hz
       exact rz.oneCell
   .cases hy
  .cases hy
 .cases hy
theorem zf8 (ht:P.underlying t=some (.slice el)) (hi:P.info? el=some i) (hs:Src P i.size tx x 0 [] w) (hle:n<=cap):
  (Builtin.append_ #[t,tx] ty #[.slice base n cap,x]).run P w= .ok (.slice base n cap) w:=by
 have hc:=hs.cells
 have hl:=hs.len w
 rcases hs.kind with ⟨e',hk⟩|hk<;>cases base<;>
  simp[Builtin.append_,run_underlying ht,run_underlying hk,sizeOf,typeInfo,hi,hl,hle,hc,storeCells]
theorem zk6 {b o m:Nat} {news:List Value} {arr:Array Value} {T:TypeId} {fz:Nat×Nat} (ht:P.underlying t=some (.slice el)) (hi:P.info? el=some i) (hs:Src P i.size tx x m news w) (hle:n+m<=cap)
  (hh:w.heap[b]? =some (.cells arr T fz)) (hf:zr6 arr fz) (ab:o+n*i.size+news.length<=arr.size):
  (Builtin.append_ #[t,tx] ty #[.slice (some ⟨b,o,none⟩) n cap,x]).run P w= .ok (.slice (some ⟨b,o,none⟩) (n+m) cap) (yG w b (.cells (xB arr (o+n*i.size) news) T fz)):=by
 have hc:=hs.cells
 have hl:=hs.len w
 have aa:=xQ P b (o+n*i.size) T fz news 0 arr w hh hf om hs.one
 rw[Ch]at aa
 rcases hs.kind with ⟨e',hk⟩|hk<;>
  simp[Builtin.append_,run_underlying ht,run_underlying hk,sizeOf,typeInfo,hi,hl,hle,hc,xR,aa]
theorem yn7 {P:Program} {w:World} {L:Nat->Nat} {rows:List (List V)} {s:Nat} (ht:P.underlying t=some (.slice el)) (hs:0<s) (hu:uni s rows) (r:RdP w L (.sl .ro rows) (.slice base rows.length cap)):
  ∃aa,(Builtin.firstCells s rows.length (.slice base rows.length cap)).run P w.drew= .ok aa.toArray w.drew/\All2 (RdP w L) rows.flatten aa/\aa.length=rows.length*s:=by
 obtain⟨news,h1,h2⟩:=r.src ht hs hu
 exact⟨news,h1.cellsD,h2,h1.newsLen⟩
theorem yg5 {z:Value} (hu:P.underlying t=some (.slice el)) (hi:P.info? el=some i) (hz:i.zero=some z) (ag:z.cells.size=i.size) (ah:0<i.bytes)
  {k:Nat} {aa news:List Value} {y:Value} (hold:(Builtin.firstCells i.size n (.slice base n cap)).run P w.drew= .ok aa.toArray w.drew) (ae:aa.length=n*i.size) (ab:Src P i.size tx y k news w)
  (af:cap<n+k) (hbound:(n+k)*i.bytes<=140737488355328):
  ∃(ad:Nat) (arr:Array Value),n+k<=ad/\ad*i.size<=arr.size/\arr.toList.take ((n+k)*i.size)=aa++news/\
   (Builtin.append_ #[t,tx] ty #[.slice base n cap,y]).run P w= .ok (.slice (some ⟨w.heap.size,0,none⟩) (n+k) ad) (w.drew.alloc (.cells arr el)):=by
 have hb:n+k<=140737488355328:=B2 (Nat.le_mul_of_pos_right _ ah) hbound
 have hr:=run_append_grow_src (P:=P) w t tx ty el i z hu hi hz base n cap aa hold y k news ab af om (growslice_fits af hbound)
 have ai:=grownCap_ge w (n+k) cap el
 refine⟨grownCap w (n+k) cap el,_,ai, ?_, ?_,hr⟩
 .have hm:grownCap w (n+k) cap el*i.size=(n+k)*i.size+(grownCap w (n+k) cap el - (n+k))*i.size:=by
   rw[<-Ap];congr 1;omega
  simp only[Array.size_append,List.size_toArray,B0,size_zeroCells,ag,ae,ab.newsLen]
  rw[hm,Ap]
  exact A6 _
 .rw[Array.toList_append,Cz (by simp only[B0,ae,ab.newsLen];rw[Ap];exact A6 _)]
  rw[Az (by simp only[B0,ae,ab.newsLen];rw[Ap];exact A6 _)]
theorem yF9 {rows:List (List V)} {s:Nat} {a0:Option Addr} (hu:P.underlying t=some (.slice el)) (hok:ObOk w L σ β (.lst rows s) (.slice a0 rows.length cap)):
  ∃aa,(Builtin.firstCells s rows.length (.slice a0 rows.length cap)).run P w.drew= .ok aa.toArray w.drew/\aa.length=rows.length*s/\All2 (RdC w L σ β) rows.flatten aa:=by
 obtain⟨a',ai,e,hcap,hs,aj,hx⟩:=hok
 cases e
 by_cases h0:0<cap
 .obtain⟨b,arr,T,fz,rfl,hh,_,ak,_,ab⟩:=hx h0
  have al:rows.length*s<=cap*s:=Ao _ hcap
  have hl:(arr.toList.take (rows.length*s)).length=rows.length*s:=by simp;omega
  have ad:=Src.ofSlice (P:=P) (size:=s) w hu ⟨b,0,none⟩ rows.length cap (arr.toList.take (rows.length*s)) hl (fun j u hj=>by
   rw[Ai]at hj
   split at hj
   .rw[Aq]at hj
    rw[xR]
    simp only[World.cell?,hh]
    simpa using hj
   .cases hj) (fun u ae=>by
   obtain⟨k,hk⟩:=Ay.1 ae
   have af:k<rows.flatten.length:=by
    rw[ab.length];exact(A5.1 hk).1
   obtain⟨z,hz,rz⟩:=ab.get k _ (A4 af)
   rw[hk]at hz;cases hz
   exact rz.oneCell)
  exact⟨_,ad.cellsD,hl,ab⟩
 .have ag:cap=0:=om
  subst ag
  have ah:rows= []:=B7 om
  subst ah
  cases a0 with
  |none=>exact⟨[],(Src.ofNil (P:=P) (size:=s) w hu 0).cellsD,sm,tV⟩
  |some a0=>exact⟨[],(Src.ofSlice (P:=P) (size:=s) w hu a0 0 0 [] sm (fun j u h=>by simp at h) (fun _ h=>by cases h)).cellsD,sm,tV⟩
theorem yh2 {rows:List (List V)} {s p:Nat} (h: ∀r∈rows,r.length=s) (h2: ∀r∈r2,r.length=s) (hp:p+r2.length<=rows.length):
  (rows.take p++r2++rows.drop (p+r2.length)).flatten=putCells rows.flatten (p*s) r2.flatten:=by
 have h1: ∀q,q<=rows.length->(rows.take q).flatten=rows.flatten.take (q*s):=fun q hq=>by
  have e:rows.flatten=(rows.take q).flatten++(rows.drop q).flatten:=by rw[<-C2,Bv]
  have hl:=zV (rows:=rows.take q) (s:=s) fun r hr=>h r (Bt hr)
  have aa:(rows.take q).length=q:=by simp;omega
  rw[aa]at hl
  rw[e,Cz (Cn hl.symm),Az (Cn hl)]
 have h3: ∀q,q<=rows.length->(rows.drop q).flatten=rows.flatten.drop (q*s):=fun q hq=>by
  have e:rows.flatten=(rows.take q).flatten++(rows.drop q).flatten:=by rw[<-C2,Bv]
  have hl:=zV (rows:=rows.take q) (s:=s) fun r hr=>h r (Bt hr)
  have aa:(rows.take q).length=q:=by simp;omega
  rw[aa]at hl
  rw[e,List.drop_append_of_le_length (Cn hl.symm),By (Cn hl)]
  rfl
 have ab:=zV h2
 unfold putCells
 rw[C2,C2,h1 p om,h3 _ hp,ab,Ap]
theorem xi1 {dst:Option Tmp} {pos:String} {aft:Array Edge} {g:Option (Nat×Bool)} (t tx:TypeId) (x y:Operand) (h:Sim c nt e σ a w L β):
  ROk (zh2 (elT P t) (lenT P tx) σ (zD e x) (zD e y)) σ (Yield P c ⟨dst,.call ⟨.builtin .append, #[x,y], #[t,tx]⟩,ty,pos,aft,g⟩ a w L σ β):=by
 have hx:=h.eval x
 have hy:=h.eval y
 unfold zh2
 split
 .rename_i s bt r2 ba a6
  obtain⟨el,i,z,hu,hi,hz,rfl,rfl,aL,hs,aP⟩:=ze2 ba
  have an: ∀{v w'},(Builtin.append_ #[t,tx] ty #[a.eval x,a.eval y]).run P w= .ok v w'->(execOp a.eval ⟨dst,.call ⟨.builtin .append, #[x,y], #[t,tx]⟩,ty,pos,aft,g⟩).run P w= .ok (.value v) w':=by
   intro v w' hr
   simp[execOp,resolve,invoke,builtin,hr]
  have grow: ∀{base:Option Addr} {n cap:Nat} {r1:List (List V)},zo0 σ (zD e y)->a.eval x= .slice base n cap->r1.length=n->RdP w L (.sl .ro r1) (.slice base n cap)->uni i.size r1->uni i.size r2->cap<n+r2.length->(n+r2.length)*i.bytes<=140737488355328->
    ∃xs ai,n+r2.length<=ai/\All2 (RdP w L) (r1++r2).flatten xs/\ ∃arr:Array Value,ai*i.size<=arr.size/\(∀(k:Nat) v,xs[k]? =some v->arr[k]? =some v)/\
     (execOp a.eval ⟨dst,.call ⟨.builtin .append, #[x,y], #[t,tx]⟩,ty,pos,aft,g⟩).run P w= .ok (.value (.slice (some ⟨w.heap.size,0,none⟩) (n+r2.length) ai)) (w.drew.alloc (.cells arr el)):=by
   intro base n cap r1 ao hv hn ay ak af aQ hbound
   subst hn
   obtain⟨news,ab,ag⟩:=yg9 (P:=P) h.mem ao a6 hy hs af
   obtain⟨av,hold,az,a8⟩:=yn7 hu hs ak ay
   have hb:r1.length+r2.length<=140737488355328:=B2 (Nat.le_mul_of_pos_right _ aP) hbound
   have hr:=run_append_grow_src (P:=P) w t tx ty el i z hu hi hz base r1.length cap av hold (a.eval y) r2.length news ab aQ om (growslice_fits aQ hbound)
   rw[<-hv]at hr
   have aA:=grownCap_ge w (r1.length+r2.length) cap el
   refine⟨av++news,grownCap w (r1.length+r2.length) cap el,aA, ?_,_, ?_, ?_,an hr⟩
   .rw[C2];exact az.append ag
   .have hm:grownCap w (r1.length+r2.length) cap el*i.size=(r1.length+r2.length)*i.size+(grownCap w (r1.length+r2.length) cap el - (r1.length+r2.length))*i.size:=by
     rw[<-Ap];congr 1;omega
    simp only[Array.size_append,List.size_toArray,B0,size_zeroCells,aL,a8,ab.newsLen]
    rw[hm,Ap]
    exact A6 _
   .intro k v hk
    have bb:=(A5.1 hk).1
    rw[Ds (by simpa using bb)]
    simpa using hk
  split
  ·
   rename_i r1 h1
   rw[h1]at hx
   rintro⟨ao,hbound,ak,af⟩
   have aH:RdP w L (.sl .full r1) (a.eval x):=hx
   obtain⟨base,cap,hv,aI,bc⟩:=aH.len
   have hcap:=bc rfl
   subst hcap
   by_cases h0:r2= []
   .subst h0
    obtain⟨news,ab,ag⟩:=yg9 (P:=P) h.mem ao a6 hy hs af
    have aB:news= []:=B7 (by rw[ab.newsLen];simp)
    subst aB
    have hr:=zf8 (P:=P) (ty:=ty) hu hi ab aI (base:=base)
    rw[<-hv]at hr
    have aa:=h.mem.own (s:=i.size) (n:=r1.length) (a:=base) hs
    refine⟨_,w,L,_,.inl (an hr),by simpa using aa,Le.refl _ _,Ext.push _ _ h.mem.len _ _, ?_⟩
    rw[Bc]
    refine⟨RdP.weak aH,r1.length,i.size, ?_,A6 _,fun _=> ?_,ak⟩
    .simp
    .rw[<-h.mem.len,hv];simp
   .have ar:0<r2.length:=Ec.2 h0
    obtain⟨xs,ai,aA,ag,arr,a7,aJ,aC⟩:=grow ao hv rfl (by rw[<-hv];exact RdP.weak aH) ak af om hbound
    have hd:=h.mem.drew
    have hlen:(r1++r2).length=r1.length+r2.length:=sm
    obtain⟨aa,hle,a1⟩:=hd.1.appPush (s:=i.size) (cap:=ai) (rows:=r1++r2) (T:=el) hs (zc2 ak af) (ag.imp fun _ _=>RdP.mono hd.2) om a7 aJ
    rw[hlen]at aa a1
    refine⟨_,_,_,_,.inl aC,aa,hd.2.trans ?_,Ext.push _ _ h.mem.len _ _, ?_⟩
    .rw[hlen]at hle;exact hle
    .refine⟨a1,r1.length+r2.length,i.size,sm,by rw[hlen];exact A6 _,fun _=> ?_,zc2 ak af⟩
     rw[<-h.mem.len];simp
  .rename_i id r1 h1
   rw[h1]at hx
   split
   .rename_i n s' hσ
    rintro⟨ao,rfl,rfl,hbound,af⟩
    obtain⟨ay,n',s2,aR,bq,hβ,ak⟩:=hx
    rw[hσ]at aR
    cases aR
    have aD:=hβ rfl
    obtain⟨base,cap,hv,aI,_⟩:=ay.len
    by_cases h0:r2= []
    .subst h0
     obtain⟨news,ab,ag⟩:=yg9 (P:=P) h.mem ao a6 hy hs af
     have aB:news= []:=B7 (by rw[ab.newsLen];simp)
     subst aB
     have hr:=zf8 (P:=P) (ty:=ty) hu hi ab aI (base:=base)
     rw[<-hv]at hr
     have aw:σ.set id (.app (r1.length+([]:List (List V)).length) i.size)=σ:=yB _ _ _ (by simpa using hσ)
     rw[aw]
     refine⟨_,w,L,β,.inl (an hr),h.mem,Le.refl _ _,Ext.refl _ _, ?_⟩
     rw[Bc]
     exact⟨ay,r1.length,i.size,hσ,A6 _,hβ,ak⟩
    .have ar:0<r2.length:=Ec.2 h0
     have hlen:(r1++r2).length=r1.length+r2.length:=sm
     have aq:id<σ.length:=(A5.1 hσ).1
     by_cases al:r1.length+r2.length<=cap
     .obtain⟨a',aF,e1,bd,aS,hok⟩:=h.mem.objs id _ _ hσ aD
      rw[hv]at e1;cases e1
      obtain⟨b,o',arr,T,fz,rfl,hh,hf,a7,hL⟩:=hok om
      obtain⟨news,ab,ag⟩:=yg9 (P:=P) h.mem ao a6 hy hs af
      rw[hv]at ay aD
      obtain⟨br,T',bu,bf,bg,au,aa,hle,ah,a1⟩:=h.mem.appIn hσ aD rfl ay ak af ag ar al
      have hr:=zk6 (P:=P) (ty:=ty) hu hi ab al bf bg au
      rw[<-hv]at hr
      refine⟨_,_,_,_,.inl (an hr),aa,hle,ah,a1,r1.length+r2.length,i.size, ?_,by rw[hlen];exact A6 _,fun _=> ?_,zc2 ak af⟩
      .rw[Ar aq]
      .rw[Ar (by rw[h.mem.len];exact aq)]
     .obtain⟨xs,ai,aA,ag,arr,a7,aJ,aC⟩:=grow ao hv rfl (by rw[<-hv];exact ay) ak af om hbound
      have hd:=h.mem.drew
      obtain⟨aa,hle,ah,a1⟩:=hd.1.appNew (cap:=ai) (rows:=r1++r2) (arr:=arr) (T:=el) hσ aD hs (zc2 ak af) (ag.imp fun _ _=>RdP.mono hd.2) om om a7 aJ
      rw[hlen]at aa ah a1 hle
      refine⟨_,_,_,_,.inl aC,aa,hd.2.trans hle,ah,a1,r1.length+r2.length,i.size, ?_,by rw[hlen];exact A6 _,fun _=> ?_,zc2 ak af⟩
      .rw[Ar aq]
      .rw[Ar (by rw[h.mem.len];exact aq)];rfl
   .trivial
  .rename_i id s1 n lo m h1
   rw[h1]at hx
   obtain⟨ad,cap,hv,aT,ar,hc⟩:=hx
   split
   .rename_i rows s' hσ
    have cur:rows.length=n-> ∃b c0,β[id]? =some (.slice b n c0)/\cap=c0 - lo/\lo<=c0/\(lo<c0-> ∃k,b=some ⟨k,0,none⟩/\ad=some ⟨k,lo*s1,none⟩):=fun hn=>by
     rcases hc with hd|⟨rows2,aU,bw,hb⟩
     .rw[hσ]at hd;cases hd
     .rw[hσ]at aU;cases aU;exact hb hn.symm
    have aq:id<σ.length:=(A5.1 hσ).1
    split
    .rename_i aV
     rintro⟨ao,rfl,rfl,hn,af⟩
     obtain⟨b0,c0,hβ,rfl,a8,aj⟩:=cur hn
     obtain⟨a2,aF,e1,aW,aS,ax,hok⟩:=h.mem.objs id _ _ hσ hβ
     cases e1
     clear hok cur hc
     obtain⟨news,ab,ag⟩:=yg9 (P:=P) h.mem ao a6 hy hs af
     by_cases h0:r2= []
     .subst h0
      have aB:news= []:=B7 (by rw[ab.newsLen];simp)
      subst aB
      have hr:=zf8 (P:=P) (ty:=ty) hu hi ab aT.1 (base:=ad)
      rw[<-hv]at hr
      have aw:σ.set id (.lst (rows.take (lo+m)++ []++rows.drop (lo+m+([]:List (List V)).length)) i.size)=σ:=yB _ _ _ (by simp[hσ])
      rw[aw]
      refine⟨_,w,L,β,.inl (an hr),h.mem,Le.refl _ _,Ext.refl _ _, ?_⟩
      exact⟨ad,c0 - lo,hv,aT,ar,.inr ⟨rows,hσ,Cn hn.symm,fun _=>⟨b0,c0,hβ,rfl,a8,aj⟩⟩⟩
     .have bx:0<r2.length:=Ec.2 h0
      clear ar
      have bh:lo<c0:=by clear aj;omega
      obtain⟨k0,rfl,rfl⟩:=aj bh
      clear aj
      have ae:(rows.take (lo+m)++r2++rows.drop (lo+m+r2.length)).length=rows.length:=by simp;omega
      have aX:(lo+m)*i.size<=rows.length*i.size:=Ao _ om
      obtain⟨arr,T,fz,hh,hf,au,aa,hle,ah⟩:=h.mem.lstPut (off:=(lo+m)*i.size) (vs:=r2.flatten) (rows2:=rows.take (lo+m)++r2++rows.drop (lo+m+r2.length)) hσ hβ om
       (ag.imp fun _ _=>RdC.of_pure) aX (fun r hr=>by
        rcases Ba.1 hr with hr|hr
        .rcases Ba.1 hr with hr|hr
         .exact ax r (Bt hr)
         .exact af r hr
        .exact ax r (D4 hr)) (yh2 ax af om) (by rw[ae];exact A6 _) (by rw[ae];omega)
      have aw:β.set id (.slice (some ⟨k0,0,none⟩) (rows.take (lo+m)++r2++rows.drop (lo+m+r2.length)).length c0)=β:=yB _ _ _ (by rw[ae,hn];exact hβ)
      rw[aw]at aa ah
      have hr:=zk6 (P:=P) (ty:=ty) (o:=lo*i.size) (n:=m) (cap:=c0 - lo) hu hi ab om hh hf (by rw[Ap]at au;exact au)
      rw[<-hv,<-Ap]at hr
      refine⟨_,_,_,_,.inl (an hr),aa,hle,ah, ?_⟩
      exact⟨_,c0 - lo,rfl,om,fun _=>⟨_,_,rfl⟩,.inr ⟨_,Ar aq,by rw[ae];omega,fun _=>⟨_,c0,hβ,rfl,a8,fun _=>⟨k0,rfl,rfl⟩⟩⟩⟩
    .rename_i aV
     rintro⟨ao,rfl,rfl,hn,af,rfl,rfl,hbound⟩
     obtain⟨b0,c0,hβ,bj,a8,aj⟩:=cur hn
     have aY:c0=cap:=by rw[bj,Nat.sub_zero]
     subst aY
     have aZ:=h.mem.objs id _ _ hσ hβ
     obtain⟨a2,aF,e1,aW,aS,ax,hok⟩:=aZ
     cases e1
     clear hok cur hc ar
     obtain⟨news,ab,ag⟩:=yg9 (P:=P) h.mem ao a6 hy hs af
     have ae:(rows++r2).length=rows.length+r2.length:=sm
     by_cases al:rows.length+r2.length<=c0
     .have bk:0<c0:=by clear aj;rw[Af]at aV;omega
      obtain⟨k0,rfl,rfl⟩:=aj bk
      clear aj
      obtain⟨arr,T,fz,hh,hf,au,aa,hle,ah⟩:=h.mem.lstPut (off:=rows.length*i.size) (vs:=r2.flatten) (rows2:=rows++r2) hσ hβ om
       (ag.imp fun _ _=>RdC.of_pure) (A6 _) (zc2 ax af) (by
        unfold putCells
        rw[C2,Az (by rw[zV ax];exact A6 _),By (by rw[zV ax];omega),Bc]) (by rw[ae];omega) (by rw[ae];exact al)
      rw[Cg]at hv
      have hr:=zk6 (P:=P) (ty:=ty) (o:=0) (n:=rows.length) (cap:=c0) hu hi ab al hh hf (by rw[Af];exact au)
      rw[<-hv,Af]at hr
      rw[ae]at aa ah
      refine⟨_,_,_,_,.inl (an hr),aa,hle,ah, ?_⟩
      exact⟨_,c0,rfl,⟨al,om⟩,fun _=>⟨_,_,rfl⟩,.inr ⟨_,Ar aq,by rw[ae];exact A6 _,fun _=>⟨_,c0,Ar (by rw[h.mem.len];exact aq),rfl,A7 _,fun _=>⟨k0,rfl,by rw[Cg]⟩⟩⟩⟩
     .obtain⟨av,hold,aG,az⟩:=yF9 (P:=P) hu (h.mem.objs id _ _ hσ hβ)
      have bm:ad=b0∨c0=0:=by
       by_cases h0:0<c0
       .obtain⟨k0,rfl,rfl⟩:=aj h0
        exact .inl (by rw[Cg])
       .exact .inr (Nat.eq_zero_of_not_pos h0)
      clear aj
      have aK:(Builtin.firstCells i.size rows.length (.slice ad rows.length c0)).run P w.drew= .ok av.toArray w.drew:=by
       rcases bm with rfl|rfl
       .exact hold
       .have bn:rows= []:=B7 om
        subst bn
        have bo:av= []:=B7 (by rw[aG];simp)
        subst bo
        cases ad with
        |none=>exact(Src.ofNil (P:=P) (size:=i.size) w hu 0).cellsD
        |some a0=>exact(Src.ofSlice (P:=P) (size:=i.size) w hu a0 0 0 [] sm (fun j u h=>by simp at h) (fun _ h=>by cases h)).cellsD
      obtain⟨ai,arr,aA,a7,bp,hr⟩:=yg5 (P:=P) (w:=w) (tx:=tx) (ty:=ty) hu hi hz aL aP aK aG ab om hbound
      rw[<-hv]at hr
      have hd:=h.mem.drew
      have aE:All2 (RdC w.drew L σ β) (rows++r2).flatten (arr.toList.take ((rows++r2).length*i.size)):=by
       rw[ae,bp,C2]
       exact(az.imp fun _ _=>RdC.mono hd.2 (Ext.refl _ _)).append (ag.imp fun _ _ q=>RdC.of_pure (q.mono hd.2))
      obtain⟨aa,hle,ah⟩:=hd.1.lstRe (rows2:=rows++r2) (cap:=ai) (T:=el) hσ hβ hs (zc2 ax af) aE om om a7
      rw[ae]at aa ah
      refine⟨_,_,_,_,.inl (an hr),aa,hd.2.trans hle,ah, ?_⟩
      exact⟨_,ai,rfl,⟨aA,om⟩,fun _=>⟨_,_,rfl⟩,.inr ⟨_,Ar aq,by rw[ae];exact A6 _,fun _=>⟨_,ai,Ar (by rw[h.mem.len];exact aq),rfl,A7 _,fun _=>⟨_,rfl,by rw[Cg];rfl⟩⟩⟩⟩
   .trivial
  .trivial
 .trivial
theorem yQ5 {dst:Option Tmp} {pos:String} {aft:Array Edge} {g:Option (Nat×Bool)} (t tx:TypeId) (x y:Operand) (h:Sim c nt e σ a w L β):
  ROk (ze3 (elT P t) (lenT P tx) σ (zD e x) (zD e y)) σ (Yield P c ⟨dst,.call ⟨.builtin .append, #[x,y], #[t,tx]⟩,ty,pos,aft,g⟩ a w L σ β):=by
 have hx:=h.eval x
 have hy:=h.eval y
 unfold ze3
 split
 .rename_i id s1 n lo m h1
  split
  .rename_i s aT r2 a7 a1
   obtain⟨el,i,z,hu,hi,hz,rfl,rfl,a8,hs,aA⟩:=ze2 a7
   have ah: ∀{v w'},(Builtin.append_ #[t,tx] ty #[a.eval x,a.eval y]).run P w= .ok v w'->(execOp a.eval ⟨dst,.call ⟨.builtin .append, #[x,y], #[t,tx]⟩,ty,pos,aft,g⟩).run P w= .ok (.value v) w':=by
    intro v w' hr
    simp[execOp,resolve,invoke,builtin,hr]
   rw[h1]at hx
   obtain⟨ad,cap,hv,aG,ar,hc⟩:=hx
   split
   .rename_i rows s' hσ
    have cur:rows.length=n-> ∃b c0,β[id]? =some (.slice b n c0)/\cap=c0 - lo/\lo<=c0/\(lo<c0-> ∃k,b=some ⟨k,0,none⟩/\ad=some ⟨k,lo*s1,none⟩):=fun hn=>by
     rcases hc with hd|⟨rows2,aH,bg,hb⟩
     .rw[hσ]at hd;cases hd
     .rw[hσ]at aH;cases aH;exact hb hn.symm
    have av:id<σ.length:=(A5.1 hσ).1
    split
    .rename_i aI
     rintro⟨aw,rfl,rfl,hn,aj⟩
     obtain⟨b0,c0,hβ,rfl,ax,af⟩:=cur hn
     obtain⟨a2,aJ,e1,aK,aU,an,hok⟩:=h.mem.objs id _ _ hσ hβ
     cases e1
     clear hok cur hc
     obtain⟨news,ag,ak⟩:=xy8 (P:=P) h.mem aw a1 hy hs aj
     by_cases h0:r2= []
     .subst h0
      have aB:news= []:=B7 (by rw[ag.newsLen];simp)
      subst aB
      have hr:=zf8 (P:=P) (ty:=ty) hu hi ag aG.1 (base:=ad)
      rw[<-hv]at hr
      have ay:σ.set id (.lst (rows.take (lo+m)++ []++rows.drop (lo+m+([]:List (List V)).length)) i.size)=σ:=yB _ _ _ (by simp[hσ])
      rw[ay]
      refine⟨_,w,L,β,.inl (ah hr),h.mem,Le.refl _ _,Ext.refl _ _, ?_⟩
      exact⟨ad,c0 - lo,hv,aG,ar,.inr ⟨rows,hσ,Cn hn.symm,fun _=>⟨b0,c0,hβ,rfl,ax,af⟩⟩⟩
     .have bh:0<r2.length:=Ec.2 h0
      clear ar
      have aV:lo<c0:=by clear af;omega
      obtain⟨k0,rfl,rfl⟩:=af aV
      clear af
      have aa:(rows.take (lo+m)++r2++rows.drop (lo+m+r2.length)).length=rows.length:=by simp;omega
      have aL:(lo+m)*i.size<=rows.length*i.size:=Ao _ om
      obtain⟨arr,T,fz,hh,hf,au,ab,hle,ae⟩:=h.mem.lstPut (off:=(lo+m)*i.size) (vs:=r2.flatten) (rows2:=rows.take (lo+m)++r2++rows.drop (lo+m+r2.length)) hσ hβ om
       ak aL (fun r hr=>by
        rcases Ba.1 hr with hr|hr
        .rcases Ba.1 hr with hr|hr
         .exact an r (Bt hr)
         .exact aj r hr
        .exact an r (D4 hr)) (yh2 an aj om) (by rw[aa];exact A6 _) (by rw[aa];omega)
      have ay:β.set id (.slice (some ⟨k0,0,none⟩) (rows.take (lo+m)++r2++rows.drop (lo+m+r2.length)).length c0)=β:=yB _ _ _ (by rw[aa,hn];exact hβ)
      rw[ay]at ab ae
      have hr:=zk6 (P:=P) (ty:=ty) (o:=lo*i.size) (n:=m) (cap:=c0 - lo) hu hi ag om hh hf (by rw[Ap]at au;exact au)
      rw[<-hv,<-Ap]at hr
      refine⟨_,_,_,_,.inl (ah hr),ab,hle,ae, ?_⟩
      exact⟨_,c0 - lo,rfl,om,fun _=>⟨_,_,rfl⟩,.inr ⟨_,Ar av,by rw[aa];omega,fun _=>⟨_,c0,hβ,rfl,ax,fun _=>⟨k0,rfl,rfl⟩⟩⟩⟩
    .rename_i aI
     rintro⟨aw,rfl,rfl,hn,aj,rfl,rfl,hbound⟩
     obtain⟨b0,c0,hβ,aW,ax,af⟩:=cur hn
     have aP:c0=cap:=by rw[aW,Nat.sub_zero]
     subst aP
     have aQ:=h.mem.objs id _ _ hσ hβ
     obtain⟨a2,aJ,e1,aK,aU,an,hok⟩:=aQ
     cases e1
     clear hok cur hc ar
     obtain⟨news,ag,ak⟩:=xy8 (P:=P) h.mem aw a1 hy hs aj
     have aa:(rows++r2).length=rows.length+r2.length:=sm
     by_cases ao:rows.length+r2.length<=c0
     .have aX:0<c0:=by clear af;rw[Af]at aI;omega
      obtain⟨k0,rfl,rfl⟩:=af aX
      clear af
      obtain⟨arr,T,fz,hh,hf,au,ab,hle,ae⟩:=h.mem.lstPut (off:=rows.length*i.size) (vs:=r2.flatten) (rows2:=rows++r2) hσ hβ om
       ak (A6 _) (zc2 an aj) (by
        unfold putCells
        rw[C2,Az (by rw[zV an];exact A6 _),By (by rw[zV an];omega),Bc]) (by rw[aa];omega) (by rw[aa];exact ao)
      rw[Cg]at hv
      have hr:=zk6 (P:=P) (ty:=ty) (o:=0) (n:=rows.length) (cap:=c0) hu hi ag ao hh hf (by rw[Af];exact au)
      rw[<-hv,Af]at hr
      rw[aa]at ab ae
      refine⟨_,_,_,_,.inl (ah hr),ab,hle,ae, ?_⟩
      exact⟨_,c0,rfl,⟨ao,om⟩,fun _=>⟨_,_,rfl⟩,.inr ⟨_,Ar av,by rw[aa];exact A6 _,fun _=>⟨_,c0,Ar (by rw[h.mem.len];exact av),rfl,A7 _,fun _=>⟨k0,rfl,by rw[Cg]⟩⟩⟩⟩
     .obtain⟨az,hold,a6,aq⟩:=yF9 (P:=P) hu (h.mem.objs id _ _ hσ hβ)
      have aY:ad=b0∨c0=0:=by
       by_cases h0:0<c0
       .obtain⟨k0,rfl,rfl⟩:=af h0
        exact .inl (by rw[Cg])
       .exact .inr (Nat.eq_zero_of_not_pos h0)
      clear af
      have aC:(Builtin.firstCells i.size rows.length (.slice ad rows.length c0)).run P w.drew= .ok az.toArray w.drew:=by
       rcases aY with rfl|rfl
       .exact hold
       .have aZ:rows= []:=B7 om
        subst aZ
        have ba:az= []:=B7 (by rw[a6];simp)
        subst ba
        cases ad with
        |none=>exact(Src.ofNil (P:=P) (size:=i.size) w hu 0).cellsD
        |some a0=>exact(Src.ofSlice (P:=P) (size:=i.size) w hu a0 0 0 [] sm (fun j u h=>by simp at h) (fun _ h=>by cases h)).cellsD
      obtain⟨ai,arr,aD,aE,aF,hr⟩:=yg5 (P:=P) (w:=w) (tx:=tx) (ty:=ty) hu hi hz a8 aA aC a6 ag om hbound
      rw[<-hv]at hr
      have hd:=h.mem.drew
      have al:All2 (RdC w.drew L σ β) (rows++r2).flatten (arr.toList.take ((rows++r2).length*i.size)):=by
       rw[aa,aF,C2]
       exact(aq.imp fun _ _=>RdC.mono hd.2 (Ext.refl _ _)).append (ak.imp fun _ _=>RdC.mono hd.2 (Ext.refl _ _))
      obtain⟨ab,hle,ae⟩:=hd.1.lstRe (rows2:=rows++r2) (cap:=ai) (T:=el) hσ hβ hs (zc2 an aj) al om om aE
      rw[aa]at ab ae
      refine⟨_,_,_,_,.inl (ah hr),ab,hd.2.trans hle,ae, ?_⟩
      exact⟨_,ai,rfl,⟨aD,om⟩,fun _=>⟨_,_,rfl⟩,.inr ⟨_,Ar av,by rw[aa];exact A6 _,fun _=>⟨_,ai,Ar (by rw[h.mem.len];exact av),rfl,A7 _,fun _=>⟨_,rfl,by rw[Cg];rfl⟩⟩⟩⟩
   .trivial
  .trivial
 split
 .rename_i s aT r2 a7 a1
  obtain⟨el,i,z,hu,hi,hz,rfl,rfl,a8,hs,aA⟩:=ze2 a7
  have ah: ∀{v w'},(Builtin.append_ #[t,tx] ty #[a.eval x,a.eval y]).run P w= .ok v w'->(execOp a.eval ⟨dst,.call ⟨.builtin .append, #[x,y], #[t,tx]⟩,ty,pos,aft,g⟩).run P w= .ok (.value v) w':=by
   intro v w' hr
   simp[execOp,resolve,invoke,builtin,hr]
  split
  .rename_i r1 h1
   rw[h1]at hx
   rintro⟨aw,hbound,aR,aj,bb⟩
   have aS:RdP w L (.sl .full r1) (a.eval x):=hx
   obtain⟨base,cap,hv,bc,bd⟩:=aS.len
   have hcap:=bd rfl
   subst hcap
   obtain⟨news,ag,ak⟩:=yg9 (P:=P) h.mem aw a1 hy hs aj
   by_cases h0:r2= []
   .have bf:=bb h0
    subst h0 bf
    have aB:news= []:=B7 (by rw[ag.newsLen];simp)
    subst aB
    have hr:=zf8 (P:=P) (ty:=ty) hu hi ag bc (base:=base)
    rw[<-hv]at hr
    have ab:=h.mem.lstNil (s:=i.size) (a:=base) hs
    refine⟨_,w,L,_,.inl (ah hr),by simpa using ab,Le.refl _ _,Ext.push _ _ h.mem.len _ _, ?_⟩
    refine⟨base,0,hv,⟨A6 _,A6 _⟩,fun q=>by simp at q,.inr ⟨[],sm,sm,fun _=>⟨base,0, ?_,rfl,A6 _,fun q=>om⟩⟩⟩
    rw[<-h.mem.len];simp
   .have ar:0<r2.length:=Ec.2 h0
    obtain⟨az,hold,aq,ax⟩:=yn7 hu hs aR (show RdP w L (.sl .ro r1) (.slice base r1.length r1.length) by rw[<-hv];exact RdP.weak aS)
    obtain⟨ai,arr,aD,aE,aF,hr⟩:=yg5 (P:=P) (w:=w) (tx:=tx) (ty:=ty) hu hi hz a8 aA hold ax ag om hbound
    rw[<-hv]at hr
    have hd:=h.mem.drew
    have aa:(r1++r2).length=r1.length+r2.length:=sm
    have al:All2 (RdC w.drew L σ β) (r1++r2).flatten (arr.toList.take ((r1++r2).length*i.size)):=by
     rw[aa,aF,C2]
     exact(aq.imp fun _ _ q=>RdC.of_pure (q.mono hd.2)).append (ak.imp fun _ _ q=>RdC.of_pure (q.mono hd.2))
    obtain⟨ab,hle,ae⟩:=hd.1.lstPush (cap:=ai) (T:=el) hs (zc2 aR aj) al om aE
    rw[aa]at ab ae
    refine⟨_,_,_,_,.inl (ah hr),ab,hd.2.trans hle,ae, ?_⟩
    refine⟨_,ai,rfl,⟨aD,om⟩,fun _=>⟨_,_,rfl⟩,.inr ⟨r1++r2,sm,by rw[aa];exact A6 _,fun _=>⟨_,ai, ?_,rfl,A7 _,fun _=>⟨_,rfl,by rw[Cg]⟩⟩⟩⟩
    rw[<-h.mem.len];simp
  .trivial
 .trivial
end
section
variable {P:Program} {c:Ctx} {nt:Nat} {e:Env} {σ:St} {a:Act} {w:World} {L:Nat->Nat} {β:List Value} {o:Oper}
variable {dst:Option Tmp}{ty:TypeId}{aft:Array Edge}{g:Option (Nat×Bool)}{n:Nat}{cap:Nat}
theorem zP0 (arr:Array Value) (k:Nat): ∀(vs:List Value) (j:Nat) (cur:Array Value),(vs.zipIdx j).foldl (fun cs (p:Value×Nat)=>cs.setIfInBounds (k+p.2) p.1) cur=xB cur (k+j) vs
 | [],_,_=>rfl
 |v::vs,j,cur=>by
  rw[List.zipIdx_cons,Bi,zP0 arr k vs (j+1)]
  rfl
theorem zJ6 {pl:Nat->Option (Nat×Nat)} {arr:Array Value} {i off s:Nat} {v:Value} {rest:List (Nat×Value)} (hp:pl i=some (off,s)) (hs:v.cells.size=s) (hle:off+s<=arr.size):
  Instr.fill pl arr ((i,v)::rest)=Instr.fill pl (xB arr off v.cells.toList) rest:=by
 rw[Instr.fill]
 simp only[hp]
 have h1:(v.cells.size≠s||decide (off+v.cells.size>arr.size))=false:=by simp[hs];exact hle
 rw[if_neg (by simp[hs];omega)]
 congr 1
 rw[<-Array.foldl_toList,Array.toList_zipIdx]
 exact zP0 arr off v.cells.toList 0 arr
def zn4:Nat->List (Nat×V)->Bool
 |_,[]=>true
 |k,(i,v)::r=>i==k&&wE v&&zn4 (k+1) r
def zL7 (v:V):Bool:=(yZ v).all zg8
def zF5 (v:V):List V:=(yZ v).map dem
def zb4 (es:Option Nat) (len:Nat) (parts:List (Nat×V)):R:=
 match es with
 |some s=>if zn4 0 parts=true/\parts.length=len then .need ((∀p∈parts,zL7 p.2=true/\(yZ p.2).length=s)/\len*s<=16777216/\0<s) (.sl .full (parts.map fun p=>zF5 p.2))else .fail
 |none=> .fail
theorem All2.map_left {α β γ:Type} {R:γ->β->Prop} {f:α->γ}: ∀{l:List α} {m:List β},All2 (fun x y=>R (f x) y) l m->All2 R (l.map f) m
 | [],[],_=>trivial
 |_::_,_::_,h=>⟨h.1,All2.map_left h.2⟩
 | [],_::_,h=>h.elim
 |_::_,[],h=>h.elim
theorem xE4 {v:V} {x:Value} (r:All2 (RdC w L σ β) (yZ v) x.cells.toList) (hp:zL7 v=true):All2 (RdP w L) (zF5 v) x.cells.toList:=by
 unfold zL7 at hp
 unfold zF5
 refine All2.map_left ?_
 revert r hp
 generalize yZ v=cs
 generalize x.cells.toList=xs
 intro r hp
 induction cs generalizing xs with
 |nil=>cases xs with
  |nil=>trivial
  |cons y ys=>exact r.elim
 |cons p cs ih=>cases xs with
  |nil=>exact r.elim
  |cons y ys=>
   simp at hp
   exact⟨RdC.dem r.1 hp.1,ih _ r.2 (by simpa using hp.2)⟩
theorem yn6 {s:Nat}: ∀(parts:List (Nat×V)) (ab:List (Nat×Value)) (k:Nat) (arr:Array Value) (done:List V),zn4 k parts=true->(∀p∈parts,zL7 p.2=true/\(yZ p.2).length=s)->
  All2 (fun p q=>p.1=q.1/\RdS w L σ β p.2 q.2) parts ab->arr.size=(k+parts.length)*s->done.length=k*s->All2 (RdP w L) done (arr.toList.take (k*s))->
  ∃aa,Instr.fill (fun i=>some (i*s,s)) arr ab=some aa/\aa.size=arr.size/\All2 (RdP w L) (done++(parts.map fun p=>zF5 p.2).flatten) aa.toList
 | [],[],k,arr,done,_,_,_,af,hd,ad=>by
  refine⟨arr,rfl,rfl, ?_⟩
  simp at af
  rw[Az (by simp;omega)]at ad
  simpa using ad
 |(i,v)::parts,(i',x)::ab,k,arr,done,ho,hp,⟨⟨hi,hr⟩,ah⟩,af,hd,ad=>by
  simp only[zn4,A8,beq_iff_eq]at ho
  obtain⟨⟨rfl,ai⟩,ho⟩:=ho
  have ag:=hp (i,v) sm
  simp only at hi ag
  subst hi
  have ae:=zp3 hr ai
  have hlen:=ae.length
  simp only[C4]at hlen
  have aj:x.cells.size=s:=by rw[<-hlen];exact ag.2
  simp only[Al]at af
  have hm:(i+(parts.length+1))*s=i*s+s+parts.length*s:=by rw[Ap,Ap,Bp];omega
  have an:(i+1)*s=i*s+s:=by rw[Ap,Bp]
  rw[zJ6 (s:=s) rfl aj om]
  have ak:=xE4 ae ag.1
  have ao:(zF5 v).length=s:=by simp[zF5,ag.2]
  obtain⟨aa,h1,h2,h3⟩:=yn6 parts ab (i+1) (xB arr (i*s) x.cells.toList) (done++zF5 v) ho (fun p aq=>hp p (by simp[aq])) ah (by rw[xC,af];congr 1;omega) (by simp[hd,ao,an]) (by
   have al:i*s+x.cells.toList.length<=arr.size:=by simp;omega
   have e1:(xB arr (i*s) x.cells.toList).toList.take ((i+1)*s)=arr.toList.take (i*s)++x.cells.toList:=by
    apply C7
    intro j
    rw[Ai]
    have ar:(List.take (i*s) arr.toList).length=i*s:=by simp;omega
    by_cases hj:j<(i+1)*s
    .rw[if_pos hj,Aq,zf3 _ _ _ _ al]
     simp only[C4]
     by_cases au:j<i*s
     .rw[if_neg om,Ae om,Ai,if_pos au,Aq]
     .rw[if_pos om,An om,ar]
    .rw[if_neg hj,Bg (by simp[aj];omega)]
   rw[e1]
   exact ad.append ak)
  refine⟨aa,h1,by rw[h2,xC], ?_⟩
  rw[As,Cf,<-C8]
  exact h3
 | [],_::_,_,_,_,_,_,h,_,_,_=>h.elim
 |_::_,[],_,_,_,_,_,h,_,_,_=>h.elim
theorem yc7 {s:Nat}: ∀(parts:List (Nat×V)) (ab:List (Nat×Value)) (k:Nat) (arr:Array Value) (done:List V),zn4 k parts=true->(∀p∈parts,(yZ p.2).length=s)->
  All2 (fun p q=>p.1=q.1/\RdS w L σ β p.2 q.2) parts ab->arr.size=(k+parts.length)*s->done.length=k*s->All2 (RdC w L σ β) done (arr.toList.take (k*s))->
  ∃aa,Instr.fill (fun i=>some (i*s,s)) arr ab=some aa/\aa.size=arr.size/\All2 (RdC w L σ β) (done++(parts.map fun p=>yZ p.2).flatten) aa.toList
 | [],[],k,arr,done,_,_,_,af,hd,ad=>by
  refine⟨arr,rfl,rfl, ?_⟩
  simp at af
  rw[Az (by simp;omega)]at ad
  simpa using ad
 |(i,v)::parts,(i',x)::ab,k,arr,done,ho,hp,⟨⟨hi,hr⟩,ag⟩,af,hd,ad=>by
  simp only[zn4,A8,beq_iff_eq]at ho
  obtain⟨⟨rfl,ai⟩,ho⟩:=ho
  have ah:=hp (i,v) sm
  simp only at hi ah
  subst hi
  have ae:=zp3 hr ai
  have hlen:=ae.length
  simp only[C4]at hlen
  have aj:x.cells.size=s:=by rw[<-hlen];exact ah
  simp only[Al]at af
  have hm:(i+(parts.length+1))*s=i*s+s+parts.length*s:=by rw[Ap,Ap,Bp];omega
  have an:(i+1)*s=i*s+s:=by rw[Ap,Bp]
  rw[zJ6 (s:=s) rfl aj om]
  have ak:=ae
  have ao:(yZ v).length=s:=ah
  obtain⟨aa,h1,h2,h3⟩:=yc7 parts ab (i+1) (xB arr (i*s) x.cells.toList) (done++yZ v) ho (fun p aq=>hp p (by simp[aq])) ag (by rw[xC,af];congr 1;omega) (by simp[hd,ao,an]) (by
   have al:i*s+x.cells.toList.length<=arr.size:=by simp;omega
   have e1:(xB arr (i*s) x.cells.toList).toList.take ((i+1)*s)=arr.toList.take (i*s)++x.cells.toList:=by
    apply C7
    intro j
    rw[Ai]
    have ar:(List.take (i*s) arr.toList).length=i*s:=by simp;omega
    by_cases hj:j<(i+1)*s
    .rw[if_pos hj,Aq,zf3 _ _ _ _ al]
     simp only[C4]
     by_cases au:j<i*s
     .rw[if_neg om,Ae om,Ai,if_pos au,Aq]
     .rw[if_pos om,An om,ar]
    .rw[if_neg hj,Bg (by simp[aj];omega)]
   rw[e1]
   exact ad.append ak)
  refine⟨aa,h1,by rw[h2,xC], ?_⟩
  rw[As,Cf,<-C8]
  exact h3
 | [],_::_,_,_,_,_,_,h,_,_,_=>h.elim
 |_::_,[],_,_,_,_,_,h,_,_,_=>h.elim
theorem All2.of_parts (h:Sim c nt e σ a w L β): ∀(ps:List (Nat×Operand)),All2 (fun p q=>p.1=q.1/\RdS w L σ β p.2 q.2) (ps.map fun p=>(p.1,zD e p.2)) (ps.map fun p=>(p.1,a.eval p.2))
 | []=>trivial
 |p::ps=>⟨⟨rfl,h.eval p.2⟩,All2.of_parts h ps⟩
theorem yl4 {pos:String} (t:TypeId) (len:Nat) (ps:Array (Nat×Operand)) (h:Sim c nt e σ a w L β):
  ROk (zb4 ((elT P t).map (·.1)) len (ps.toList.map fun p=>(p.1,zD e p.2))) σ (Yield P c ⟨dst,.buildSlice t len ps,ty,pos,aft,g⟩ a w L σ β):=by
 unfold zb4
 split
 .rename_i s af
  split
  .rename_i ah
   obtain⟨ho,hlen⟩:=ah
   rintro⟨hp,aq,hs⟩
   obtain⟨el,ak⟩: ∃b,elT P t=some (s,b):=by
    cases hq:elT P t with
    |none=>simp[hq]at af
    |some q=>obtain⟨q1,q2⟩:=q;simp[hq]at af;subst af;exact⟨q2,rfl⟩
   obtain⟨el,i,z,hu,hi,hz,rfl,_,ar,_,_⟩:=ze2 ak
   have ab:=All2.of_parts h ps.toList
   have ai: ∀aa,Instr.fill (fun k=>some (k*i.size,i.size)) ((Array.range (len*i.size)).map (z.cells[· %z.cells.size]!)) (ps.map fun(k,x)=>(k,a.eval x)).toList=some aa->
     (Instr.buildSlice t len (ps.map fun(k,x)=>(k,a.eval x))).run P w= .ok (.slice (some ⟨w.heap.size,0,none⟩) len len) (w.alloc (.cells aa el)):=by
    intro aa hf
    by_cases h0:len*i.size=0
    .have al:len=0:=by
      rcases Nat.mul_eq_zero.1 h0 with h|h
      .exact h
      .omega
     subst al
     simp at hlen
     subst hlen
     simp[Instr.fill]at hf
     subst hf
     have an: ∀f:Nat->Value,(Array.range 0).map f= #[]:=fun f=>by apply Da;simp
     simp[Instr.buildSlice,run_underlying hu,sizeOf,typeInfo,hi,Instr.fill,newRow,an]
    .exact run_buildSlice w t el len _ aa i z hu hi hz om h0 hf
   have aj:(ps.map fun(k,x)=>(k,a.eval x)).toList=ps.toList.map fun p=>(p.1,a.eval p.2):=sm
   obtain⟨aa,hf,au,ad⟩:=yn6 (s:=i.size) _ _ 0 ((Array.range (len*i.size)).map (z.cells[· %z.cells.size]!)) [] ho hp ab (by simp at hlen⊢;rw[hlen]) sm (by simp[All2])
   rw[<-aj]at hf
   have hr:=ai aa hf
   have ag:((ps.toList.map fun p=>(p.1,zD e p.2)).map fun p=>zF5 p.2).length=len:=by rw[Aw,hlen]
   obtain⟨h1,h2⟩:=h.mem.alloc (.cells aa el) (len*i.size)
   refine⟨.slice (some ⟨w.heap.size,0,none⟩) len len,_,_,β,.inl (by simp[execOp,hr]),h1,h2,Ext.refl _ _, ?_⟩
   have ae:RdP (w.alloc (.cells aa el)) (yU L w.heap.size (len*i.size)) (.sl .full ((ps.toList.map fun p=>(p.1,zD e p.2)).map fun p=>zF5 p.2)) (.slice (some ⟨w.heap.size,0,none⟩) ((ps.toList.map fun p=>(p.1,zD e p.2)).map fun p=>zF5 p.2).length len):=by
    refine .of_row (xs:=aa.toList) hs (fun r hr=> ?_) (by rw[ag];simp[yU]) om (fun _=>sm) (fun _=>ag.symm) (yD _ _) (fun k x hk=>by rw[Af];simpa using hk) ?_
    .obtain⟨p,ao,rfl⟩:=Ag.1 hr
     simp only[zF5,Aw]
     exact(hp p ao).2
    .simp only[Ck]at ad
     exact ad.imp fun _ _=>RdP.mono h2
   rw[ag]at ae
   exact ae
  .trivial
 .trivial
def plcT (P:Program) (t:TypeId):Option (List (Nat×Nat)):=
 match P.underlying t with
 |some (.struct fs)=>fs.toList.mapM fun f=>(P.info? f.type).map fun i=>(f.offset,i.size)
 |some (.array n el)=>(P.info? el).map fun i=>(List.range n).map fun k=>(k*i.size,i.size)
 |_=>none
def yr8 (pl:List (Nat×Nat)) (cells:List V):List (Nat×V)->Option (List V)
 | []=>some cells
 |(i,v)::r=>(match pl[i]? with
  |some (off,s)=>if wE v=true/\(yZ v).length=s/\off+s<=cells.length then yr8 pl (putCells cells off (yZ v)) r else none
  |none=>none)
def zx4 (zs:Option (List V)) (pl:Option (List (Nat×Nat))) (parts:List (Nat×V)):R:=
 match zs,pl with
 |some z,some pl=>(match yr8 pl z parts with|some cs=> .ok (.agg cs)|none=> .fail)
 |_,_=> .fail
theorem yh6 {pl:List (Nat×Nat)} {ag:Nat->Option (Nat×Nat)} (ah: ∀i x,pl[i]? =some x->ag i=some x): ∀(parts:List (Nat×V)) (aa:List (Nat×Value)) (cells cs:List V) (arr:Array Value),yr8 pl cells parts=some cs->
  All2 (fun p q=>p.1=q.1/\RdS w L σ β p.2 q.2) parts aa->All2 (RdC w L σ β) cells arr.toList-> ∃ae,Instr.fill ag arr aa=some ae/\All2 (RdC w L σ β) cs ae.toList
 | [],[],cells,cs,arr,h,_,ab=>by simp[yr8]at h;subst h;exact⟨arr,rfl,ab⟩
 |(i,v)::parts,(i',x)::aa,cells,cs,arr,h,⟨⟨hi,hr⟩,af⟩,ab=>by
  simp only at hi
  subst hi
  rw[yr8]at h
  split at h
  .rename_i off s hp
   split at h
   .rename_i hc
    have ad:=zp3 hr hc.1
    have hl:=ad.length
    have ai:=ab.length
    simp only[C4]at hl ai
    rw[zJ6 (s:=s) (ah _ _ hp) (by rw[<-hl];exact hc.2.1) om]
    exact yh6 ah parts aa _ cs _ h af (zV3 ab ad om)
   .cases h
  .cases h
 | [],_::_,_,_,_,_,h,_=>h.elim
 |_::_,[],_,_,_,_,h,_=>h.elim
theorem xv3 {pos:String} (t:TypeId) (ps:Array (Nat×Operand)) (h:Sim c nt e σ a w L β):
  ROk (zx4 (za8 P t) (plcT P t) (ps.toList.map fun p=>(p.1,zD e p.2))) σ (Yield P c ⟨dst,.build t ps,ty,pos,aft,g⟩ a w L σ β):=by
 unfold zx4
 split
 .rename_i z pl hz ab
  split
  .rename_i cs hf
   obtain⟨i,zv,hi,ah,ai,rfl⟩:=zE9 hz
   have ad:=All2.of_parts h ps.toList
   have ae:All2 (RdC w L σ β) (zv.cells.toList.map zc6) zv.cells.toList:=(zV2 ai).imp fun _ _=>RdC.of_pure
   have aj:(ps.map fun(k,x)=>(k,a.eval x)).toList=ps.toList.map fun p=>(p.1,a.eval p.2):=sm
   have af: ∃aa,P.built t (ps.map fun(k,x)=>(k,a.eval x)).toList=some aa/\All2 (RdC w L σ β) cs aa.toList:=by
    unfold plcT at ab
    unfold Program.built
    rw[hi,aj]
    split at ab
    .rename_i fs hu
     simp only[hu,ah,ab]
     exact yh6 (fun k x hk=>by simpa using hk) _ _ _ _ _ hf ad ae
    .rename_i n el hu
     cases ag:P.info? el with
     |none=>simp[ag]at ab
     |some ie=>
      simp only[ag,B9,Option.some.injEq]at ab
      subst ab
      simp only[hu,ah,ag]
      refine yh6 (fun k x hk=> ?_) _ _ _ _ _ hf ad ae
      rw[B3]at hk
      cases hr:(List.range n)[k]? with
      |none=>simp[hr]at hk
      |some q=>
       have hq:=(A5.1 hr)
       obtain⟨_,ak⟩:=hq
       simp at ak
       simp[hr]at hk
       rw[<-hk,<-ak]
    .cases ab
   obtain⟨aa,hb,al⟩:=af
   refine Yield.pure h (x:= .agg aa) ?_ ⟨aa.toList,sm,al⟩
   have:=run_build (P:=P) w t _ aa hb
   simp[execOp,this]
  .trivial
 .trivial
def bnd (v:Option V) (d:Int):Option Int:=
 match v with
 |none=>some d
 |some (.int _ n)=>some n
 |some _=>none
def zn3 (ar:Option (Nat×Nat×Bool)) (k:Nat) (es:Option Nat) (x:V) (lo hi:Option V):R:=
 match x with
 | .lsv id s n l0 m=>(match bnd lo 0,bnd hi m,es with
  |some l,some h,some z=>if k=2 then .need (0<=l/\l<=h/\(h<=m∨(l0:Int)+h<=n)/\z=s) (.lsv id s n (l0+l.toNat) (h - l).toNat)else .fail
  |_,_,_=> .fail)
 | .ptr id off=>(match lo,hi,ar with
  |none,none,some (n,s,_)=> .ok (.bsv id s off n)
  |_,_,_=> .fail)
 | .str s=>(match bnd lo 0,bnd hi s.length with
  |some l,some h=>if k=1 then .need (0<=l/\l<=h/\h<=s.length) (.str ((s.take h.toNat).drop l.toNat))else .fail
  |_,_=> .fail)
 | .sl _ rows=>(match bnd lo 0,bnd hi rows.length,es with
  |some l,some h,some z=>if k=2 then .need (0<=l/\l<=h/\h<=rows.length/\uni z rows) (.sl .ro ((rows.take h.toNat).drop l.toNat))else .fail
  |_,_,_=> .fail)
 |_=> .fail
theorem zg4 {v:Value} {k:IntKind} {i:Int} {y:Nat} {code:BoundsCode} (hv:v= .int k i) (h0:0<=i) (hy:i<=y) (w:World):(Instr.sliceBound v y code).run P w= .ok i.toNat w:=by
 subst hv
 simp[Instr.sliceBound,asIntOf,h0,hy]
theorem xn4 {x:Option Operand} {d n:Int} (hb:bnd (x.map (zD e)) d=some n) (h:Sim c nt e σ a w L β):(x=none/\n=d)∨ ∃p k,x=some p/\a.eval p= .int k n:=by
 unfold bnd at hb
 split at hb
 .rename_i hx
  cases x with
  |none=>simp at hb;exact .inl ⟨rfl,hb.symm⟩
  |some p=>simp at hx
 .rename_i k m hx
  cases x with
  |none=>simp at hx
  |some p=>
   simp at hx hb
   subst hb
   exact .inr ⟨p,k,rfl,yE (hx▸h.eval p)⟩
 .cases hb
theorem zE4 {isS:Bool} {len l hh:Nat} {lo hi:Option Value} (aa:(lo=none/\l=0)∨ ∃k,lo=some (.int k l)) (ab:(hi=none/\hh=len)∨ ∃k,hi=some (.int k hh)) (h1:l<=hh) (h2:hh<=cap) (w:World):
  (Instr.sliceBounds isS len cap lo hi none).run P w= .ok (l,hh,cap) w:=by
 rcases aa with ⟨rfl,rfl⟩|⟨k,rfl⟩<;>rcases ab with ⟨rfl,rfl⟩|⟨k',rfl⟩
 .simp[Instr.sliceBounds]
 .have:=fun code=>zg4 (P:=P) (code:=code) (v:= .int k' hh) (y:=cap) rfl (Int.natCast_nonneg _) om w
  simp[Instr.sliceBounds,this]
 .have:=fun code=>zg4 (P:=P) (code:=code) (v:= .int k l) (y:=hh) rfl (Int.natCast_nonneg _) om w
  simp[Instr.sliceBounds,this]
 .have e1:=fun code=>zg4 (P:=P) (code:=code) (v:= .int k l) (y:=hh) rfl (Int.natCast_nonneg _) om w
  have e2:=fun code=>zg4 (P:=P) (code:=code) (v:= .int k' hh) (y:=cap) rfl (Int.natCast_nonneg _) om w
  simp[Instr.sliceBounds,e1,e2]
theorem yO6 (s:List UInt8) (l h:Nat):(ByteArray.mk s.toArray).extract l h=ByteArray.mk ((s.take h).drop l).toArray:=by
 apply ByteArray.ext
 simp[ByteArray.data_extract,E7]
 rw[List.drop_take]
theorem RdP.sub {rows:List (List V)} {s l hh:Nat} {ad:Option Addr} (r:RdP w L (.sl .ro rows) (.slice ad n cap)) (hs:0<s) (hu:uni s rows) (h1:l<=hh) (h2:hh<=rows.length):
  RdP w L (.sl .ro ((rows.take hh).drop l)) (.slice (if cap=l then ad else ad.map (·.add (l*s))) (hh - l) (cap - l)):=by
 have hlen:((rows.take hh).drop l).length=hh - l:=by simp;omega
 by_cases h0:hh - l=0
 .have af:(rows.take hh).drop l= []:=B7 (by rw[hlen,h0])
  rw[af,h0]
  exact .sl0 _ _ _ (fun q=>by cases q) (fun _=>sm)
 .have ag:rows≠ []:=fun q=>by subst q;simp at h2;omega
  obtain⟨s',b,o',al,e1,aa,ab,hlim,hcap,_,hc⟩:=r.flat ag
  cases e1
  have ah:s'=s:=by
   obtain⟨r0,rest,rfl⟩:=D6 ag
   rw[<-ab r0 sm,hu r0 sm]
  subst ah
  rw[if_neg om]
  simp only[B9,xR]
  have hm:(rows.length)*s'=l*s'+(hh - l)*s'+(rows.length - hh)*s':=by rw[<-Ap,<-Ap];congr 1;omega
  rw[<-hlen]
  have ae:uni s' ((rows.take hh).drop l):=fun q hq=>ab q (Bt (D4 hq))
  refine .of_flat aa ae (by rw[hlen];omega) (by rw[hlen];omega) (fun _=>sm) (fun q=>by cases q) fun k v hk=> ?_
  have ai:k<(hh - l)*s':=by
   have:=(A5.1 hk).1
   rwa [zV ae,hlen]at this
  have hi:k/s'<hh - l:=by rw[Cq aa];exact ai
  have hj:k%s'<s':=Cv _ aa
  have aj:k=k/s'*s'+k%s':=by rw[Bo];exact(Dl k s').symm
  rw[aj,yI _ _ ae hj]at hk
  rw[B4,Ai,if_pos om]at hk
  have ak:rows.flatten[(l+k/s')*s'+k%s']? =some v:=by rw[yI _ _ ab hj];exact hk
  obtain⟨y,hy,ry⟩:=hc _ _ ak
  refine⟨y, ?_,ry⟩
  rw[show o'+l*s'+k=o'+((l+k/s')*s'+k%s') by rw[Ap];omega]
  exact hy
theorem xw2 {pos:String} (t:TypeId) (x:Operand) (lo hi:Option Operand) (h:Sim c nt e σ a w L β):
  ROk (zn3 (arrT P t) (lenT P t) ((elT P t).map (·.1)) (zD e x) (lo.map (zD e)) (hi.map (zD e))) σ (Yield P c ⟨dst,.slice t x lo hi none,ty,pos,aft,g⟩ a w L σ β):=by
 have hx:=h.eval x
 have conv: ∀{z:Option Operand} {d n:Int} {m:Nat},bnd (z.map (zD e)) d=some n->n=m-> ∀{dn:Nat},d=dn->((z.map a.eval)=none/\m=dn)∨ ∃k,(z.map a.eval)=some (.int k m):=by
  intro z d n m hz hn dn hd
  rcases xn4 hz h with ⟨rfl,q⟩|⟨p,k,rfl,q⟩
  .exact .inl ⟨rfl,om⟩
  .exact .inr ⟨k,by simp[q,hn]⟩
 unfold zn3
 split
 .rename_i id s n l0 m h1
  rw[h1]at hx
  split
  .rename_i l hh z hl ae hz
   split
   .rename_i hk
    obtain⟨ak,al⟩:=zL3 hk
    rintro⟨a0,a1,a2,rfl⟩
    have r1:=conv hl (m:=l.toNat) om (dn:=0) rfl
    have r2:=conv ae (m:=hh.toNat) om (dn:=m) rfl
    obtain⟨an,af⟩: ∃b,elT P t=some (z,b):=by
     cases hq:elT P t with
     |none=>simp[hq]at hz
     |some q=>obtain⟨q1,q2⟩:=q;simp[hq]at hz;subst hz;exact⟨q2,rfl⟩
    obtain⟨el,i,zz,hu,ah,ao,rfl,_,aq,hs,_⟩:=ze2 af
    obtain⟨ad,cap,hv,ai,ab,hc⟩:=hx
    have ar:hh.toNat<=cap:=by obtain⟨q1,q2⟩:=ai;clear ab hc;omega
    have:=zE4 (P:=P) (isS:=true) (len:=m) (cap:=cap) r1 r2 om ar w
    refine Yield.pure h (x:= .slice (if cap=l.toNat then ad else ad.map (·.add (l.toNat*i.size))) (hh.toNat - l.toNat) (cap - l.toNat)) ?_ ?_
    .simp[execOp,hv,Instr.sliceAt,run_underlying hu,Instr.slice,this,sizeOf,typeInfo,ah]
    .refine⟨_,cap - l.toNat,by rw[show(hh - l).toNat=hh.toNat - l.toNat by omega],by obtain⟨q1,q2⟩:=ai;clear ab hc;omega,fun hp=> ?_, ?_⟩
     .obtain⟨b,o,rfl⟩:=ab (by clear hc;omega)
      rw[if_neg om]
      exact⟨b,o+l.toNat*i.size,by simp[xR]⟩
     .rcases hc with hd|⟨rows,hσ,hn,hb⟩
      .exact .inl hd
      .refine .inr ⟨rows,hσ,hn,fun q1=> ?_⟩
       obtain⟨b0,c0,hβ,ax,au,aa⟩:=hb q1
       clear hb ab
       refine⟨b0,c0,hβ,by clear aa;omega,by clear aa;omega,fun ay=> ?_⟩
       obtain⟨k0,e1,e2⟩:=aa (by clear aa;omega)
       clear aa
       refine⟨k0,e1, ?_⟩
       rw[if_neg om,e2]
       simp[xR,Ap]
   .trivial
  .trivial
 .rename_i id off h1
  rw[h1]at hx
  split
  .rename_i n sz ag au az av
   obtain⟨bl,hb,hv⟩:=hx
   obtain⟨el,hu,af,_⟩:=zJ0 av
   have e1:lo=none:=by cases lo<;>simp_all
   have e2:hi=none:=by cases hi<;>simp_all
   subst e1 e2
   refine Yield.pure h (x:= .slice (some ⟨bl,off,none⟩) n n) ?_ ⟨bl,hb,rfl⟩
   simp[execOp,hv,Instr.sliceAt,run_underlying hu,Instr.sureAddr,Instr.sliceBounds,wV af,xR]
  .trivial
 .rename_i s h1
  rw[h1]at hx
  split
  .rename_i l hh hl ae
   split
   .rename_i hk
    have hu:=yY2 hk
    rintro⟨a0,a1,a2⟩
    have r1:=conv hl (m:=l.toNat) om (dn:=0) rfl
    have r2:=conv ae (m:=hh.toNat) om (dn:=s.length) rfl
    refine Yield.pure h (x:= .string ⟨((s.take hh.toNat).drop l.toNat).toArray⟩) ?_ (RdP.str _)
    have:=zE4 (P:=P) (isS:=false) (len:=(ByteArray.mk s.toArray).size) (cap:=(ByteArray.mk s.toArray).size) r1 (by rw[zl7];exact r2) om (by rw[zl7];omega) w
    simp[execOp,wM hx,Instr.sliceAt,run_underlying hu,Instr.slice,this,yO6]
   .trivial
  .trivial
 .rename_i gg rows h1
  rw[h1]at hx
  split
  .rename_i l hh z hl ae hz
   split
   .rename_i hk
    obtain⟨ak,al⟩:=zL3 hk
    rintro⟨a0,a1,a2,aw⟩
    have r1:=conv hl (m:=l.toNat) om (dn:=0) rfl
    have r2:=conv ae (m:=hh.toNat) om (dn:=rows.length) rfl
    obtain⟨an,af⟩: ∃b,elT P t=some (z,b):=by
     cases hq:elT P t with
     |none=>simp[hq]at hz
     |some q=>obtain⟨q1,q2⟩:=q;simp[hq]at hz;subst hz;exact⟨q2,rfl⟩
    obtain⟨el,i,zz,hu,ah,ao,rfl,_,aq,hs,_⟩:=ze2 af
    have hr:=zw4 hx
    obtain⟨base,cap,hv,a6,_⟩:=hr.len
    rw[hv]at hr
    have aj:=hr.sub (l:=l.toNat) (hh:=hh.toNat) hs aw om om
    refine Yield.pure h (x:= .slice (if cap=l.toNat then base else base.map (·.add (l.toNat*i.size))) (hh.toNat - l.toNat) (cap - l.toNat)) ?_ aj
    have:=zE4 (P:=P) (isS:=true) (len:=rows.length) (cap:=cap) r1 r2 om om w
    simp[execOp,hv,Instr.sliceAt,run_underlying hu,Instr.slice,this,sizeOf,typeInfo,ah]
   .trivial
  .trivial
 .trivial
def zq9 (k:Nat) (es:Option Nat) (σ:St) (x lo:V):R:=
 match x,lo,es with
 | .sl (.app id) rows,.int _ l,some z=>(match σ[id]? with
  |some (.app n s)=>if k=2 then .needst (0<=l/\l<=rows.length/\rows.length=n/\z=s) (.sl (.app σ.length) (rows.drop l.toNat)) (σ.set id (.app (n+1) s)++ [.app (n - l.toNat) s])else .fail
  |_=> .fail)
 |_,_,_=> .fail
theorem Ext.setApp {i s m:Nat} {x y:Value} (hi:σ[i]? =some (.app n s)) (hβ:β[i]? =some x) (hx: ∀a,x≠ .pointer a) (ab:n<m):
  Ext σ β (σ.set i (.app m s)) (β.set i y):=by
 have aa:i<σ.length:=(A5.1 hi).1
 refine⟨fun id a e=> ?_,fun id n0 s0 e=> ?_,fun id r0 s0 e=> ?_,fun id e=> ?_⟩
 .have:i≠id:=fun q=>by subst q;rw[hβ]at e;cases e;exact hx _ rfl
  rw[Ah this];exact e
 .by_cases q:i=id
  .subst q
   rw[hi]at e;cases e
   exact⟨m,by rw[Ar aa],om,fun e=>om⟩
  .exact⟨n0,by rw[Ah q];exact e,A6 _,fun _=>by rw[Ah q]⟩
 .have q:i≠id:=fun q=>by subst q;rw[hi]at e;cases e
  exact .inr ⟨r0,by rw[Ah q];exact e,A6 _,fun _=>by rw[Ah q]⟩
 .have q:i≠id:=fun q=>by subst q;rw[hi]at e;cases e
  rw[Ah q];exact e
theorem xi9 {pos:String} (t:TypeId) (x lo:Operand) (h:Sim c nt e σ a w L β):
  ROk (zq9 (lenT P t) ((elT P t).map (·.1)) σ (zD e x) (zD e lo)) σ (Yield P c ⟨dst,.slice t x (some lo) none none,ty,pos,aft,g⟩ a w L σ β):=by
 have hx:=h.eval x
 have ah:=h.eval lo
 unfold zq9
 split
 .rename_i id rows kk l z h1 h2 hz
  rw[h1]at hx
  rw[h2]at ah
  split
  .rename_i n s hσ
   split
   .rename_i hk
    obtain⟨a8,aA⟩:=zL3 hk
    rintro⟨a0,a1,hn,ai⟩
    subst ai
    obtain⟨aB,ar⟩: ∃b,elT P t=some (z,b):=by
     cases hq:elT P t with
     |none=>simp[hq]at hz
     |some q=>obtain⟨q1,q2⟩:=q;simp[hq]at hz;subst hz;exact⟨q2,rfl⟩
    obtain⟨el,i,zz,hu,au,aC,rfl,_,aD,hs,_⟩:=ze2 ar
    obtain⟨hr,n',s',e1,hle,av,aj⟩:=hx
    rw[hσ]at e1;cases e1
    have hβ:=av hn
    have hok:=h.mem.objs id _ _ hσ hβ
    obtain⟨ad,cap,hv,aw,ak,aa⟩:=hok
    rw[hv]at hr hβ
    have aE:id<σ.length:=(A5.1 hσ).1
    subst hn
    have ae:=hr.sub (l:=l.toNat) (hh:=rows.length) hs aj om om
    rw[Az (A6 _)]at ae
    have hb:=zE4 (P:=P) (isS:=true) (len:=rows.length) (cap:=cap) (l:=l.toNat) (hh:=rows.length) (lo:=some (a.eval lo)) (hi:=none) (.inr ⟨kk,by rw[yE ah];congr 2;omega⟩) (.inl ⟨rfl,rfl⟩) om aw w
    have ab:Ext σ β (σ.set id (.app (rows.length+1) i.size)) (β.set id (.slice none (rows.length+1) (rows.length+1))):=Ext.setApp hσ hβ (fun a e=>by cases e) om
    have al:Mem c w L (σ.set id (.app (rows.length+1) i.size)) (β.set id (.slice none (rows.length+1) (rows.length+1))):=by
     refine h.mem.upd id _ _ (Le.refl _ _) ab (fun _=>False) (fun _ _ _ _ _ _ _ _ q=>q) (fun _ q=>q.elim) (fun _ _=>⟨rfl,rfl⟩) rfl rfl rfl rfl h.mem.lim ?_ (fun b q=> ?_)
     .exact⟨none,_,rfl,A6 _,ak,fun q=>om⟩
     .simp[excl]at q
    have hex: ∀b,excl (.app (rows.length - l.toNat) i.size) (.slice (if cap=l.toNat then ad else ad.map (·.add (l.toNat*i.size))) (rows.length - l.toNat) (cap - l.toNat))=some b->excl (.app rows.length i.size) (.slice ad rows.length cap)=some b:=fun b q=>by
     clear aa
     by_cases q1:cap=l.toNat
     .rw[if_pos q1]at q
      cases ad with
      |none=>simp[excl]at q
      |some a1=>simp only[excl]at q;rw[if_neg om]at q;cases q
     .rw[if_neg q1]at q
      cases ad with
      |none=>simp[excl]at q
      |some a1=>
       simp only[excl,B9]at q⊢
       split at q
       .rename_i q2
        rw[if_pos om]
        rw[<-q];unfold Addr.add;split<;>rfl
       .cases q
    have ax:=al.push (.app (rows.length - l.toNat) i.size) (.slice (if cap=l.toNat then ad else ad.map (·.add (l.toNat*i.size))) (rows.length - l.toNat) (cap - l.toNat))
     ⟨_,_,rfl,by clear aa;omega,ak,fun q=>by
      have q0:rows.length<cap:=by clear aa;omega
      obtain⟨b,o,arr,T,fz,rfl,hh,hf,an,hL⟩:=aa q0
      have q1: ¬cap=l.toNat:=by clear aa;omega
      refine⟨b,o+l.toNat*i.size,arr,T,fz,by rw[if_neg q1];simp[xR],hh,hf, ?_, ?_⟩
      .rw[C1,<-Ap]
       rw[show l.toNat+(cap - l.toNat)=cap by clear aa;omega];exact an
      .rw[hL,C1,<-Ap]
       rw[show l.toNat+(rows.length - l.toNat)=rows.length by clear aa;omega]⟩
     (fun j o' x' b ay ao he af=>by
      have az:=hex b af
      rcases wN ay with ⟨rfl,rfl,_⟩|⟨aq,a6⟩
      .rcases wN ao with ⟨_,rfl,_⟩|⟨q,_⟩
       .simp[excl]at he
       .exact q rfl
      .rcases wN ao with ⟨q,_,_⟩|⟨_,a7⟩
       .exact aq q
       .exact h.mem.apart j id _ _ _ _ b aq a6 a7 hσ hβ he az)
     (fun b af=>h.mem.mine id _ _ b hσ hβ (hex b af))
    have ag:=ab.trans (Ext.push _ _ al.len (.app (rows.length - l.toNat) i.size) (.slice (if cap=l.toNat then ad else ad.map (·.add (l.toNat*i.size))) (rows.length - l.toNat) (cap - l.toNat)))
    refine⟨_,w,L,_,.inl ?_,ax,Le.refl _ _,ag,ae,rows.length - l.toNat,i.size,sm,sm,fun _=>by simp[h.mem.len],fun r hr=>aj r (D4 hr)⟩
    simp[execOp,hv,Instr.sliceAt,run_underlying hu,Instr.slice,hb,sizeOf,typeInfo,au]
   .trivial
  .trivial
 .trivial
def zq8 (es:Option Nat) (x lo hi mx:V):R:=
 match x,lo,hi,mx,es with
 | .sl _ rows,.int _ l,.int _ h,.int _ m,some z=> .need (0<=l/\l<=h/\h<=rows.length/\m=h/\uni z rows) (.sl .full ((rows.take h.toNat).drop l.toNat))
 | .lsv _ s _ _ n,.int _ l,.int _ h,.int _ m,some z=> .need (0<=l/\l<=h/\h<=m/\m<=n/\z=s) (if l=m then .sl .full []else .u)
 |_,_,_,_,_=> .fail
theorem RdP.full {rows:List (List V)} {ad:Option Addr} (r:RdP w L (.sl .ro rows) (.slice ad n n)) (hn:n=rows.length):RdP w L (.sl .full rows) (.slice ad n n):=by
 cases r with
 |sl0 _ a cap hg ha=>exact .sl0 _ _ _ (fun _=>rfl) (fun _=>sm)
 |sl _ _ s b o cap c ha hs hlen hlim hcap hg hc hr=>exact .sl _ rows s b o _ c (fun _=>sm) hs hlen hlim hcap (fun _=>rfl) hc hr
theorem RdP.shrink {rows:List (List V)} {s M:Nat} {base:Option Addr} (hr:RdP w L (.sl .ro rows) (.slice base n cap)) (hs:0<s) (ad:uni s rows) (hM:M<=rows.length):RdP w L (.sl .ro (rows.take M)) (.slice base M M):=by
 have hlen:(rows.take M).length=M:=by simp;omega
 by_cases h0:M=0
 .subst h0
  exact .sl0 _ _ _ (fun q=>by cases q) (fun _=>sm)
 .have aa:rows≠ []:=fun q=>by subst q;simp at hM;omega
  obtain⟨s',b,o',ag,q,ae,ab,hlim,hcap,_,hc⟩:=hr.flat aa
  cases q
  have af:s'=s:=by
   obtain⟨r0,rest,rfl⟩:=D6 aa
   rw[<-ab r0 sm,ad r0 sm]
  subst af
  have hm:M*s'<=rows.length*s':=Ao _ hM
  have key:RdP w L (.sl .ro (rows.take M)) (.slice (some ⟨b,o',none⟩) (rows.take M).length M):=by
   refine .of_flat ae (fun q hq=>ab q (Bt hq)) (by rw[hlen];omega) om (fun _=>sm) (fun q=>by cases q) fun k v hk=>hc k v ?_
   have:rows.flatten=(rows.take M).flatten++(rows.drop M).flatten:=by rw[<-C2,Bv]
   rw[this,Ae (A5.1 hk).1]
   exact hk
  rw[hlen]at key
  exact key
theorem xi8 {pos:String} (t:TypeId) (x lo hi mx:Operand) (h:Sim c nt e σ a w L β):
  ROk (zq8 ((elT P t).map (·.1)) (zD e x) (zD e lo) (zD e hi) (zD e mx)) σ (Yield P c ⟨dst,.slice t x (some lo) (some hi) (some mx),ty,pos,aft,g⟩ a w L σ β):=by
 have hx:=h.eval x
 have h2:=h.eval lo
 have h3:=h.eval hi
 have h4:=h.eval mx
 unfold zq8
 split
 .rename_i gg rows k1 l k2 hh k3 m z e1 e2 e3 e4 hz
  rw[e1]at hx;rw[e2]at h2;rw[e3]at h3;rw[e4]at h4
  have e2:=yE h2;have e3:=yE h3;have e4:=yE h4
  rintro⟨a0,a1,a2,rfl,ag⟩
  obtain⟨ah,ab⟩: ∃b,elT P t=some (z,b):=by
   cases hq:elT P t with
   |none=>simp[hq]at hz
   |some q=>obtain⟨q1,q2⟩:=q;simp[hq]at hz;subst hz;exact⟨q2,rfl⟩
  obtain⟨el,i,zz,hu,ae,ai,rfl,_,aj,hs,_⟩:=ze2 ab
  have hr:=zw4 hx
  obtain⟨base,cap,hv,al,_⟩:=hr.len
  rw[hv]at hr
  have af:=hr.shrink (M:=m.toNat) hs ag om
  have aa:=af.sub (l:=l.toNat) (hh:=m.toNat) hs (fun q hq=>ag q (Bt hq)) om (by simp;omega)
  rw[Em,Nat.min_self]at aa
  refine Yield.pure h (x:= .slice (if m.toNat=l.toNat then base else base.map (·.add (l.toNat*i.size))) (m.toNat - l.toNat) (m.toNat - l.toNat)) ?_ (aa.full (by simp;omega))
  have b1:=fun code=>zg4 (P:=P) (code:=code) e2 a0 (show l<=(m.toNat:Nat) by omega) w
  have b2:=fun code=>zg4 (P:=P) (code:=code) e3 om (show m<=(m.toNat:Nat) by omega) w
  have b3:=fun code=>zg4 (P:=P) (code:=code) e4 om (show m<=(cap:Nat) by omega) w
  have:=run_underlying hu
  simp[execOp,hv,Instr.sliceAt,run_underlying hu,Instr.slice,Instr.sliceBounds,b1,b2,b3,sizeOf,typeInfo,ae]
 .rename_i id s n0 an n k1 l k2 hh k3 m z e1 e2 e3 e4 hz
  rw[e1]at hx;rw[e2]at h2;rw[e3]at h3;rw[e4]at h4
  have e2:=yE h2;have e3:=yE h3;have e4:=yE h4
  rintro⟨a0,a1,a2,a3,rfl⟩
  obtain⟨ah,ab⟩: ∃b,elT P t=some (z,b):=by
   cases hq:elT P t with
   |none=>simp[hq]at hz
   |some q=>obtain⟨q1,q2⟩:=q;simp[hq]at hz;subst hz;exact⟨q2,rfl⟩
  obtain⟨el,i,zz,hu,ae,ai,rfl,_,aj,hs,_⟩:=ze2 ab
  obtain⟨ad,cap,hv,ak,_,_⟩:=hx
  refine Yield.pure h (x:= .slice (if m.toNat=l.toNat then ad else ad.map (·.add (l.toNat*i.size))) (hh.toNat - l.toNat) (m.toNat - l.toNat)) ?_ (by
   split
   .have h1:hh.toNat - l.toNat=0:=om
    have h2:m.toNat - l.toNat=0:=om
    rw[h1,h2]
    exact RdP.sl0 _ _ _ (fun _=>rfl) (fun _=>sm)
   .trivial)
  have b1:=fun code=>zg4 (P:=P) (code:=code) e2 a0 (show l<=(hh.toNat:Nat) by omega) w
  have b2:=fun code=>zg4 (P:=P) (code:=code) e3 om (show hh<=(m.toNat:Nat) by omega) w
  have b3:=fun code=>zg4 (P:=P) (code:=code) e4 om (show m<=(cap:Nat) by have:=ak.1;omega) w
  simp[execOp,hv,Instr.sliceAt,run_underlying hu,Instr.slice,Instr.sliceBounds,b1,b2,b3,sizeOf,typeInfo,ae]
 .trivial
end
end Go.Vx
