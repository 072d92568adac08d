/-
  Operations over trees: conversions, fields of values, function values, make; and all of them under one word.
  No condition: a library text; nothing of the program is named.
-/
import Derived.Test.YtefbicjgbaaieaaGreatJAA
set_option maxHeartbeats 8000000
namespace Go.Vx
open Go
section
variable {P:Program} {c:Ctx} {nt:Nat} {e:Env} {σ:St} {a:Act} {w:World} {L:Nat->Nat} {β:List Value} {o:Oper}
variable {t:TypeId}{tx:TypeId}{ty:TypeId}{el:TypeId}{cap:Nat}{x:Value}{r2:List (List V)}{i:TypeInfo}{base:Option Addr}{n:Nat}
theorem ze0 {s aa:Nat} (h:elT P t=some (s,aa)): ∃el i z,P.underlying t=some (.slice el)/\P.info? el=some i/\i.zero=some z/\i.size=s/\i.bytes=aa/\z.cells.size=s/\0<s/\0<aa:=by
 unfold elT at h
 split at h
 .rename_i el hu
  cases hi:P.info? el with
  |none=>grind
  |some i=>
   cases hz:i.zero<;>grind
 grind
def zb7 (rows:List (List V)) (lo m:Nat):List (List V):=((rows.drop lo).take m).map fun r=>r.map dem
def wE (rows:List (List V)):Bool:=rows.all fun r=>r.all zC2
def xU7 (rows:List (List V)) (s' s n lo m:Nat):Prop:=s'=s/\rows.length=n/\lo+m<=n/\wE ((rows.drop lo).take m)=true
def zF7 (k:Nat) (σ:St):V->Option (List (List V))
 | .sl _ rows=>if k=2 then some rows else none
 | .str s=>if k=1 then some (zO s)else none
 | .lsv id _ _ lo m=>if k=2 then(match σ[id]? with|some (.lst rows _)=>some (zb7 rows lo m)|_=>none)else none
 |_=>none
def zo1 (σ:St):V->Prop
 | .lsv id s n lo m=>(match σ[id]? with|some (.lst rows s')=>xU7 rows s' s n lo m|_=>False)
 |_=>True
def zh8 (el:Option (Nat×Nat)) (k2:Nat) (σ:St) (x y:V):R:=
 match el,zF7 k2 σ y with
 |some (s,by'),some r2=>
  (match x with
  | .sl .full r1=> .needst (zo1 σ y/\(r1.length+r2.length)*by'<=140737488355328/\uni s r1/\uni s r2) (.sl (.app σ.length) (r1++r2)) (σ++ [.app (r1.length+r2.length) s])
  | .sl (.app id) r1=>(match σ[id]? with
   |some (.app n s')=> .needst (zo1 σ y/\r1.length=n/\s'=s/\(r1.length+r2.length)*by'<=140737488355328/\uni s r2) (.sl (.app id) (r1++r2)) (σ.set id (.app (n+r2.length) s'))
   |_=> .fail)
  | .lsv id s1 n lo m=>(match σ[id]? with
   |some (.lst rows s')=>
    if lo+m+r2.length<=n then .needst (zo1 σ y/\s1=s/\s'=s/\rows.length=n/\uni s r2) (.lsv id s n lo (m+r2.length)) (σ.set id (.lst (rows.take (lo+m)++r2++rows.drop (lo+m+r2.length)) s))
    else .needst (zo1 σ y/\s1=s/\s'=s/\rows.length=n/\uni s r2/\lo=0/\m=n/\(n+r2.length)*by'<=140737488355328) (.lsv id s (n+r2.length) 0 (n+r2.length)) (σ.set id (.lst (rows++r2) s))
   |_=> .fail)
  |_=> .fail)
 |_,_=> .fail
def zJ4 (k:Nat) (σ:St):V->Option (List (List V))
 | .sl _ rows=>if k=2 then some rows else none
 | .str s=>if k=1 then some (zO s)else none
 | .lsv id _ _ lo m=>if k=2 then(match σ[id]? with|some (.lst rows _)=>some ((rows.drop lo).take m)|_=>none)else none
 |_=>none
def zx1 (σ:St):V->Prop
 | .lsv id s n lo m=>(match σ[id]? with|some (.lst rows s')=>s'=s/\rows.length=n/\lo+m<=n|_=>False)
 |_=>True
def ze1 (el:Option (Nat×Nat)) (k2:Nat) (σ:St) (x y:V):R:=
 match x with
 | .lsv id s1 n lo m=>(match el,zJ4 k2 σ y with
  |some (s,by'),some r2=>(match σ[id]? with
   |some (.lst rows s')=>
    if lo+m+r2.length<=n then .needst (zx1 σ y/\s1=s/\s'=s/\rows.length=n/\uni s r2) (.lsv id s n lo (m+r2.length)) (σ.set id (.lst (rows.take (lo+m)++r2++rows.drop (lo+m+r2.length)) s))
    else .needst (zx1 σ y/\s1=s/\s'=s/\rows.length=n/\uni s r2/\lo=0/\m=n/\(n+r2.length)*by'<=140737488355328) (.lsv id s (n+r2.length) 0 (n+r2.length)) (σ.set id (.lst (rows++r2) s))
   |_=> .fail)
  |_,_=> .fail)
 |x=>match el,zF7 k2 σ y with
 |some (s,by'),some r2=>
  (match x with
  | .sl .full r1=> .needst (zo1 σ y/\(r1.length+r2.length)*by'<=140737488355328/\uni s r1/\uni s r2/\(r2= []->r1= [])) (.lsv σ.length s (r1.length+r2.length) 0 (r1.length+r2.length)) (σ++ [.lst (r1++r2) s])
  |_=> .fail)
 |_,_=> .fail
theorem ym5 {y:V} {s:Nat} (hm:Mem c w L σ β) (ah:zo1 σ y) (hy:zF7 (lenT P tx) σ y=some r2) (r:RdS w L σ β y x) (hs:0<s) (hu:uni s r2):
  ∃news,Src P s tx x r2.length news w/\All2 (RdP w L) r2.flatten news:=by
 unfold zF7 at hy
 split at hy
 .rename_i gg rows
  split at hy
  .rename_i h2
   cases hy
   obtain⟨el,ab⟩:=zN3 h2
   exact(zw9 r).src ab hs hu
  grind
 .rename_i q
  split at hy
  .rename_i h1
   cases hy
   have h1:=xd3 h1
   have hx:=za3 r
   subst hx
   by_cases hq:q= []
   .subst hq
    refine⟨[],⟨.inr h1,fun _=>rfl, ?_, ?_,by simp[zO],sM⟩,tV⟩
    all_goals simp[Builtin.firstCells]
   .have au:s=1:=by
     obtain⟨b,rest,rfl⟩:=Bq hq
     exact(hu [.int .u8 b.toNat] (by simp[zO])).symm
    subst au
    have:=Src.ofString w h1 ⟨q.toArray⟩
    grind[zu5,zO,zq0]
  grind
 .rename_i id s1 n lo m
  split at hy
  .rename_i h2
   obtain⟨el,ab⟩:=zN3 h2
   split at hy
   .rename_i rows s' hσ
    cases hy
    simp only[zo1,hσ]at ah
    obtain⟨rfl,hn,aB,hp⟩:=ah
    obtain⟨ad,cap,hv,aC,ai,hc⟩:=r
    have aj:(zb7 rows lo m).length=m:=by grind[zb7]
    by_cases h0:m=0
    .subst h0
     have ak:zb7 rows lo 0= []:=by rfl
     rw[ak,hv]
     cases ad with
     |none=>exact⟨[],Src.ofNil w ab cap,tV⟩
     |some ad=>exact⟨[],(by grind[Src.ofSlice]),tV⟩
    .rcases hc with hd|⟨rows2,al,aD,hb⟩
     .grind
     .rw[hσ]at al
      cases al
      obtain⟨b0,c0,hβ,hcap,aE,af⟩:=hb hn.symm
      clear hb ai
      have aF:0<m:=om
      have an:lo<c0:=om
      obtain⟨k0,rfl,rfl⟩:=af an
      clear af
      obtain⟨a2,a7,e1,a8,aG,ao,hok⟩:=hm.objs id _ _ hσ hβ
      cases e1
      obtain⟨b',arr,T,fz,e2,hh,_,aH,_,ag⟩:=hok (Nat.lt_of_le_of_lt (A3 _) an)
      cases e2
      clear hok
      have av:s'=s:=by
       have ae:0<(zb7 rows lo m).length:=om
       have h1:=hu _ (Ab ae)
       grind[zb7]
      subst av
      have aI:=yA ao
      have aw:=yA hu
      rw[aj]at aw
      have ax:(lo+m)*s'<=rows.length*s':=Ah _ om
      rw[B2]at ax
      have aJ:rows.length*s'<=arr.size:=by
       have:=ag.length
       grind
      have aA: ∀k v y,(zb7 rows lo m).flatten[k]? =some v->arr[lo*s'+k]? =some y->RdP w L v y:=by
       intro k v y hk ay
       have aq:k<m*s':=by grind
       have hi:k/s'<m:=by simp_all[Bz]
       have hj:k%s'<s':=Cn _ hs
       have az:k=k/s'*s'+k%s':=by grind[Cz]
       rw[az,yN _ _ hu hj]at hk
       simp only[zb7,B6,Aw,if_pos hi,Bt]at hk
       have ae:lo+k/s'<rows.length:=om
       rw[A0 ae]at hk
       simp only[Bg,Ar,B6,Ao]at hk
       obtain⟨v0,aK,rfl⟩:=hk
       have hf:rows.flatten[(lo+k/s')*s'+k%s']? =some v0:=by
        rw[yN _ _ ao hj,A0 ae];grind
       obtain⟨z,hz,rz⟩:=ag.get _ _ hf
       have ar:(lo+k/s')*s'+k%s'=lo*s'+k:=by grind
       rw[ar,Aw,if_pos om,Aq,ay]at hz
       cases hz
       refine RdC.dem rz ?_
       unfold wE at hp
       rw[Aj]at hp
       have aL:rows[lo+k/s']∈(rows.drop lo).take m:=by
        rw[Av]
        exact⟨k/s',by grind⟩
       grind
      have a1:((arr.toList.drop (lo*s')).take (m*s')).length=m*s':=by grind
      rw[aj,hv]
      have aa:All2 (RdP w L) (zb7 rows lo m).flatten ((arr.toList.drop (lo*s')).take (m*s')):=by
       grind[All2.of]
      refine⟨_,Src.ofSlice w ab ⟨k0,lo*s',none⟩ m cap _ a1 (fun j u hj=> ?_) (fun u a6=> ?_),aa⟩
      .rw[Aw]at hj
       split at hj
       .rw[Bt,Aq]at hj
        grind[wA,World.cell?]
       grind
      .obtain⟨k,hk⟩:=Av.1 a6
       have aq:k<(zb7 rows lo m).flatten.length:=by
        grind
       obtain⟨z,hz,rz⟩:=aa.get k _ (A0 aq)
       rw[hk]at hz;cases hz
       exact rz.oneCell
   grind
  grind
 grind
theorem xF0 {y:V} {s:Nat} (hm:Mem c w L σ β) (ah:zx1 σ y) (hy:zJ4 (lenT P tx) σ y=some r2) (r:RdS w L σ β y x) (hs:0<s) (hu:uni s r2):
  ∃news,Src P s tx x r2.length news w/\All2 (RdC w L σ β) r2.flatten news:=by
 unfold zJ4 at hy
 split at hy
 .rename_i gg rows
  split at hy
  .rename_i h2
   cases hy
   obtain⟨el,ab⟩:=zN3 h2
   obtain⟨news,q1,q2⟩:=(zw9 r).src ab hs hu
   exact⟨news,q1,q2.imp fun _ _=>RdC.of_pure⟩
  grind
 .rename_i q
  split at hy
  .rename_i h1
   cases hy
   have h1:=xd3 h1
   have hx:=za3 r
   subst hx
   by_cases hq:q= []
   .subst hq
    refine⟨[],⟨.inr h1,fun _=>rfl, ?_, ?_,by simp[zO],sM⟩,tV⟩
    all_goals simp[Builtin.firstCells]
   .have ar:s=1:=by
     obtain⟨b,rest,rfl⟩:=Bq hq
     exact(hu [.int .u8 b.toNat] (by simp[zO])).symm
    subst ar
    have:=Src.ofString w h1 ⟨q.toArray⟩
    rw[zu5]at this
    have hl:(zO q).length=q.length:=by simp[zO]
    exact⟨_,by grind,(zq0 q).imp fun _ _=>RdC.of_pure⟩
  grind
 .rename_i id s1 n lo m
  split at hy
  .rename_i h2
   obtain⟨el,ab⟩:=zN3 h2
   split at hy
   .rename_i rows s' hσ
    cases hy
    simp only[zx1,hσ]at ah
    obtain⟨rfl,hn,aA⟩:=ah
    obtain⟨ad,cap,hv,aB,ai,hc⟩:=r
    have aj:((rows.drop lo).take m).length=m:=by grind
    by_cases h0:m=0
    .subst h0
     have ak:(rows.drop lo).take 0= []:=sM
     rw[ak,hv]
     cases ad with
     |none=>exact⟨[],Src.ofNil w ab cap,tV⟩
     |some ad=>exact⟨[],(by grind[Src.ofSlice]),tV⟩
    .rcases hc with hd|⟨rows2,al,aC,hb⟩
     .grind
     .rw[hσ]at al
      cases al
      obtain⟨b0,c0,hβ,hcap,aD,af⟩:=hb hn.symm
      clear hb ai
      have aE:0<m:=om
      have an:lo<c0:=om
      obtain⟨k0,rfl,rfl⟩:=af an
      clear af
      obtain⟨a2,a1,e1,a6,aF,ao,hok⟩:=hm.objs id _ _ hσ hβ
      cases e1
      obtain⟨b',arr,T,fz,e2,hh,_,aG,_,ag⟩:=hok (Nat.lt_of_le_of_lt (A3 _) an)
      cases e2
      clear hok
      have au:s'=s:=by
       have ae:0<((rows.drop lo).take m).length:=om
       have h1:=hu _ (Ab ae)
       grind
      subst au
      have aH:=yA ao
      have av:=yA hu
      rw[aj]at av
      have aw:(lo+m)*s'<=rows.length*s':=Ah _ om
      rw[B2]at aw
      have aI:rows.length*s'<=arr.size:=by
       have:=ag.length
       grind
      have a7: ∀k v y,((rows.drop lo).take m).flatten[k]? =some v->arr[lo*s'+k]? =some y->RdC w L σ β v y:=by
       intro k v y hk aJ
       have aq:k<m*s':=by grind
       have hi:k/s'<m:=by rw[Bz hs];omega
       have hj:k%s'<s':=Cn _ hs
       have ax:k=k/s'*s'+k%s':=by rw[Du];exact(Cz k s').symm
       rw[ax,yN _ _ hu hj]at hk
       simp only[Aw,if_pos hi,Bt]at hk
       have ae:lo+k/s'<rows.length:=om
       rw[A0 ae]at hk
       simp only[Ar]at hk
       have hf:rows.flatten[(lo+k/s')*s'+k%s']? =some v:=by
        rw[yN _ _ ao hj,A0 ae];exact hk
       obtain⟨z,hz,rz⟩:=ag.get _ _ hf
       have a8:(lo+k/s')*s'+k%s'=lo*s'+k:=by grind
       grind
      have ay:((arr.toList.drop (lo*s')).take (m*s')).length=m*s':=by grind
      rw[aj,hv]
      have aa:All2 (RdC w L σ β) ((rows.drop lo).take m).flatten ((arr.toList.drop (lo*s')).take (m*s')):=by
       grind[All2.of]
      refine⟨_,Src.ofSlice w ab ⟨k0,lo*s',none⟩ m cap _ ay (fun j u hj=> ?_) (fun u az=> ?_),aa⟩
      .rw[Aw]at hj
       split at hj
       .rw[Bt,Aq]at hj
        rw[wA]
        simp only[World.cell?,hh]
        grind
       grind
      .obtain⟨k,hk⟩:=Av.1 az
       have aq:k<((rows.drop lo).take m).flatten.length:=by
        grind
       obtain⟨z,hz,rz⟩:=aa.get k _ (A0 aq)
       rw[hk]at hz;cases hz
       exact rz.oneCell
   grind
  grind
 grind
theorem zg5 (ht:P.underlying t=some (.slice el)) (hi:P.info? el=some i) (hs:Src P i.size tx x 0 [] w) (hle:n<=cap):
  (Builtin.append_ #[t,tx] ty #[.slice base n cap,x]).run P w= .ok (.slice base n cap) w:=by
 have hc:=hs.cells
 have hl:=hs.len w
 rcases hs.kind with ⟨e',hk⟩|hk<;>cases base<;>
  simp[Builtin.append_,run_underlying ht,run_underlying hk,sizeOf,typeInfo,hi,hl,hle,hc,storeCells]
theorem zl2 {b o m:Nat} {news:List Value} {arr:Array Value} {T:TypeId} {fz:Nat×Nat} (ht:P.underlying t=some (.slice el)) (hi:P.info? el=some i) (hs:Src P i.size tx x m news w) (hle:n+m<=cap)
  (hh:w.heap[b]? =some (.cells arr T fz)) (hf:zs0 arr fz) (ab:o+n*i.size+news.length<=arr.size):
  (Builtin.append_ #[t,tx] ty #[.slice (some ⟨b,o,none⟩) n cap,x]).run P w= .ok (.slice (some ⟨b,o,none⟩) (n+m) cap) (yM w b (.cells (xF arr (o+n*i.size) news) T fz)):=by
 have hc:=hs.cells
 have hl:=hs.len w
 have aa:=xZ P b (o+n*i.size) T fz news 0 arr w hh hf om hs.one
 rw[D9]at aa
 rcases hs.kind with ⟨e',hk⟩|hk<;>
  simp[Builtin.append_,run_underlying ht,run_underlying hk,sizeOf,typeInfo,hi,hl,hle,hc,wA,aa]
theorem ys4 {P:Program} {w:World} {L:Nat->Nat} {rows:List (List V)} {s:Nat} (ht:P.underlying t=some (.slice el)) (hs:0<s) (hu:uni s rows) (r:RdP w L (.sl .ro rows) (.slice base rows.length cap)):
  ∃aa,(Builtin.firstCells s rows.length (.slice base rows.length cap)).run P w.drew= .ok aa.toArray w.drew/\All2 (RdP w L) rows.flatten aa/\aa.length=rows.length*s:=by
 obtain⟨news,h1,h2⟩:=r.src ht hs hu
 exact⟨news,h1.cellsD,h2,h1.newsLen⟩
theorem ym0 {z:Value} (hu:P.underlying t=some (.slice el)) (hi:P.info? el=some i) (hz:i.zero=some z) (ag:z.cells.size=i.size) (ah:0<i.bytes)
  {k:Nat} {aa news:List Value} {y:Value} (hold:(Builtin.firstCells i.size n (.slice base n cap)).run P w.drew= .ok aa.toArray w.drew) (ae:aa.length=n*i.size) (ab:Src P i.size tx y k news w)
  (af:cap<n+k) (hbound:(n+k)*i.bytes<=140737488355328):
  ∃(ad:Nat) (arr:Array Value),n+k<=ad/\ad*i.size<=arr.size/\arr.toList.take ((n+k)*i.size)=aa++news/\
   (Builtin.append_ #[t,tx] ty #[.slice base n cap,y]).run P w= .ok (.slice (some ⟨w.heap.size,0,none⟩) (n+k) ad) (w.drew.alloc (.cells arr el)):=by
 have hb:n+k<=140737488355328:=B3 (Nat.le_mul_of_pos_right _ ah) hbound
 have hr:=run_append_grow_src (P:=P) w t tx ty el i z hu hi hz base n cap aa hold y k news ab af om (growslice_fits af hbound)
 have ai:=grownCap_ge w (n+k) cap el
 refine⟨grownCap w (n+k) cap el,_,ai, ?_, ?_,hr⟩
 .have hm:grownCap w (n+k) cap el*i.size=(n+k)*i.size+(grownCap w (n+k) cap el - (n+k))*i.size:=by
   rw[<-B2];grind
  simp only[Array.size_append,List.size_toArray,Ak,size_zeroCells,ag,ae,ab.newsLen]
  grind
 .rw[Array.toList_append,List.take_append_of_le_length (by simp only[Ak,ae,ab.newsLen];grind)]
  rw[Ap (by simp only[Ak,ae,ab.newsLen];grind)]
theorem yK3 {rows:List (List V)} {s:Nat} {a0:Option Addr} (hu:P.underlying t=some (.slice el)) (hok:ObOk w L σ β (.lst rows s) (.slice a0 rows.length cap)):
  ∃aa,(Builtin.firstCells s rows.length (.slice a0 rows.length cap)).run P w.drew= .ok aa.toArray w.drew/\aa.length=rows.length*s/\All2 (RdC w L σ β) rows.flatten aa:=by
 obtain⟨a',ai,e,hcap,hs,aj,hx⟩:=hok
 cases e
 by_cases h0:0<cap
 .obtain⟨b,arr,T,fz,rfl,hh,_,ak,_,ab⟩:=hx h0
  have al:rows.length*s<=cap*s:=Ah _ hcap
  have hl:(arr.toList.take (rows.length*s)).length=rows.length*s:=by grind
  have ad:=Src.ofSlice (P:=P) (size:=s) w hu ⟨b,0,none⟩ rows.length cap (arr.toList.take (rows.length*s)) hl (by grind[wA,World.cell?]) (fun u ae=>by
   obtain⟨k,hk⟩:=Av.1 ae
   have af:k<rows.flatten.length:=by
    rw[ab.length];grind
   obtain⟨z,hz,rz⟩:=ab.get k _ (A0 af)
   rw[hk]at hz;cases hz
   exact rz.oneCell)
  exact⟨_,ad.cellsD,hl,ab⟩
 .have ag:cap=0:=om
  subst ag
  have ah:rows= []:=(by grind)
  subst ah
  cases a0 with
  |none=>exact⟨[],(by rfl),sM,tV⟩
  |some a0=>exact⟨[],(Src.ofSlice (P:=P) (size:=s) w hu a0 0 0 [] sM (fun j u h=>by simp at h) (fun _ h=>by cases h)).cellsD,sM,tV⟩
theorem ym9 {rows:List (List V)} {s p:Nat} (h: ∀r∈rows,r.length=s) (h2: ∀r∈r2,r.length=s) (hp:p+r2.length<=rows.length):
  (rows.take p++r2++rows.drop (p+r2.length)).flatten=putCells rows.flatten (p*s) r2.flatten:=by
 have h1: ∀q,q<=rows.length->(rows.take q).flatten=rows.flatten.take (q*s):=fun q hq=>by
  have e:rows.flatten=(rows.take q).flatten++(rows.drop q).flatten:=by grind[Bo]
  have hl:=yA (rows:=rows.take q) (s:=s) fun r hr=>h r (Cu hr)
  grind
 have h3: ∀q,q<=rows.length->(rows.drop q).flatten=rows.flatten.drop (q*s):=fun q hq=>by
  have e:rows.flatten=(rows.take q).flatten++(rows.drop q).flatten:=by grind[Bo]
  have hl:=yA (rows:=rows.take q) (s:=s) (by grind)
  grind
 have aa:=yA h2
 unfold putCells
 rw[C6,C6,h1 p om,h3 _ hp,aa,B2]
theorem xo1 {dst:Option Tmp} {pos:String} {aft:Array Edge} {g:Option (Nat×Bool)} (t tx:TypeId) (x y:Operand) (h:Sim c nt e σ a w L β):
  ROk (zh8 (elT P t) (lenT P tx) σ (zD e x) (zD e y)) σ (Yield P c ⟨dst,.call ⟨.builtin .append, #[x,y], #[t,tx]⟩,ty,pos,aft,g⟩ a w L σ β):=by
 have hx:=h.eval x
 have hy:=h.eval y
 unfold zh8
 split
 .rename_i s bp r2 aY ax
  obtain⟨el,i,z,hu,hi,hz,rfl,rfl,aJ,hs,aK⟩:=ze0 aY
  have ak: ∀{v w'},(Builtin.append_ #[t,tx] ty #[a.eval x,a.eval y]).run P w= .ok v w'->(execOp a.eval ⟨dst,.call ⟨.builtin .append, #[x,y], #[t,tx]⟩,ty,pos,aft,g⟩).run P w= .ok (.value v) w':=by
   simp_all[execOp,resolve,invoke,builtin]
  have grow: ∀{base:Option Addr} {n cap:Nat} {r1:List (List V)},zo1 σ (zD e y)->a.eval x= .slice base n cap->r1.length=n->RdP w L (.sl .ro r1) (.slice base n cap)->uni i.size r1->uni i.size r2->cap<n+r2.length->(n+r2.length)*i.bytes<=140737488355328->
    ∃xs ah,n+r2.length<=ah/\All2 (RdP w L) (r1++r2).flatten xs/\ ∃arr:Array Value,ah*i.size<=arr.size/\(∀(k:Nat) v,xs[k]? =some v->arr[k]? =some v)/\
     (execOp a.eval ⟨dst,.call ⟨.builtin .append, #[x,y], #[t,tx]⟩,ty,pos,aft,g⟩).run P w= .ok (.value (.slice (some ⟨w.heap.size,0,none⟩) (n+r2.length) ah)) (w.drew.alloc (.cells arr el)):=by
   intro base n cap r1 aj hv hn ay ai ae aL hbound
   subst hn
   obtain⟨news,ab,af⟩:=ym5 (P:=P) h.mem aj ax hy hs ae
   obtain⟨ar,hold,av,aF⟩:=ys4 hu hs ai ay
   have hb:r1.length+r2.length<=140737488355328:=B3 (Nat.le_mul_of_pos_right _ aK) hbound
   have hr:=run_append_grow_src (P:=P) w t tx ty el i z hu hi hz base r1.length cap ar hold (a.eval y) r2.length news ab aL om (growslice_fits aL hbound)
   rw[<-hv]at hr
   have aB:=grownCap_ge w (r1.length+r2.length) cap el
   refine⟨ar++news,grownCap w (r1.length+r2.length) cap el,aB, ?_,_, ?_, ?_,ak hr⟩
   .rw[C6];exact av.append af
   .have hm:grownCap w (r1.length+r2.length) cap el*i.size=(r1.length+r2.length)*i.size+(grownCap w (r1.length+r2.length) cap el - (r1.length+r2.length))*i.size:=by
     rw[<-B2];grind
    simp only[Array.size_append,List.size_toArray,Ak,size_zeroCells,aJ,aF,ab.newsLen]
    grind
   grind
  split
  ·
   rename_i r1 h1
   rw[h1]at hx
   rintro⟨aj,hbound,ai,ae⟩
   have aP:RdP w L (.sl .full r1) (a.eval x):=hx
   obtain⟨base,cap,hv,aG,aZ⟩:=aP.len
   have hcap:=aZ rfl
   subst hcap
   by_cases h0:r2= []
   .subst h0
    obtain⟨news,ab,af⟩:=ym5 (P:=P) h.mem aj ax hy hs ae
    have a6:news= []:=B4 (by rw[ab.newsLen];simp)
    subst a6
    have hr:=zg5 (P:=P) (ty:=ty) hu hi ab aG (base:=base)
    rw[<-hv]at hr
    have aa:=h.mem.own (s:=i.size) (n:=r1.length) (a:=base) hs
    refine⟨_,w,L,_,.inl (ak hr),by simpa using aa,Le.refl _ _,Ext.push _ _ h.mem.len _ _, ?_⟩
    rw[B9]
    refine⟨RdP.weak aP,r1.length,i.size, ?_,om,fun _=> ?_,ai⟩
    .simp
    .rw[<-h.mem.len,hv];simp
   .have al:0<r2.length:=(by grind)
    obtain⟨xs,ah,aB,af,arr,az,aH,a7⟩:=grow aj hv rfl (by grind[RdP.weak]) ai ae om hbound
    have hd:=h.mem.drew
    have hlen:(r1++r2).length=r1.length+r2.length:=sM
    obtain⟨aa,hle,aw⟩:=hd.1.appPush (s:=i.size) (cap:=ah) (rows:=r1++r2) (T:=el) hs (zc1 ai ae) (af.imp (by grind[RdP.mono])) om az aH
    rw[hlen]at aa aw
    refine⟨_,_,_,_,.inl a7,aa,hd.2.trans ?_,Ext.push _ _ h.mem.len _ _, ?_⟩
    .grind
    .refine⟨aw,r1.length+r2.length,i.size,sM,om,fun _=> ?_,zc1 ai ae⟩
     rw[<-h.mem.len];simp
  .rename_i id r1 h1
   rw[h1]at hx
   split
   .rename_i n s' hσ
    rintro⟨aj,rfl,rfl,hbound,ae⟩
    obtain⟨ay,n',s2,aQ,bn,hβ,ai⟩:=hx
    rw[hσ]at aQ
    cases aQ
    have aC:=hβ rfl
    obtain⟨base,cap,hv,aG,_⟩:=ay.len
    by_cases h0:r2= []
    .subst h0
     obtain⟨news,ab,af⟩:=ym5 (P:=P) h.mem aj ax hy hs ae
     have a6:news= []:=B4 (by rw[ab.newsLen];simp)
     subst a6
     have hr:=zg5 (P:=P) (ty:=ty) hu hi ab aG (base:=base)
     rw[<-hv]at hr
     have au:σ.set id (.app (r1.length+([]:List (List V)).length) i.size)=σ:=(by grind[yI])
     rw[au]
     refine⟨_,w,L,β,.inl (ak hr),h.mem,Le.refl _ _,Ext.refl _ _, ?_⟩
     rw[B9]
     exact⟨ay,r1.length,i.size,hσ,om,hβ,ai⟩
    .have al:0<r2.length:=(by grind)
     have hlen:(r1++r2).length=r1.length+r2.length:=sM
     have a8:id<σ.length:=(by grind)
     by_cases ao:r1.length+r2.length<=cap
     .obtain⟨a',aE,e1,ba,aR,hok⟩:=h.mem.objs id _ _ hσ aC
      rw[hv]at e1;cases e1
      obtain⟨b,o',arr,T,fz,rfl,hh,hf,az,hL⟩:=hok om
      obtain⟨news,ab,af⟩:=ym5 (P:=P) h.mem aj ax hy hs ae
      rw[hv]at ay aC
      obtain⟨bo,T',bq,bb,bc,aA,aa,hle,ag,aw⟩:=h.mem.appIn hσ aC rfl ay ai ae af al ao
      have hr:=zl2 (P:=P) (ty:=ty) hu hi ab ao bb bc aA
      rw[<-hv]at hr
      refine⟨_,_,_,_,(by grind),aa,hle,ag,aw,r1.length+r2.length,i.size, ?_,om,fun _=> ?_,zc1 ai ae⟩
      all_goals grind
     .obtain⟨xs,ah,aB,af,arr,az,aH,a7⟩:=grow aj hv rfl (by grind) ai ae om hbound
      have hd:=h.mem.drew
      obtain⟨aa,hle,ag,aw⟩:=hd.1.appNew (cap:=ah) (rows:=r1++r2) (arr:=arr) (T:=el) hσ aC hs (zc1 ai ae) (af.imp (by grind[RdP.mono])) om om az aH
      rw[hlen]at aa ag aw hle
      refine⟨_,_,_,_,.inl a7,aa,hd.2.trans hle,ag,aw,r1.length+r2.length,i.size, ?_,om,fun _=> ?_,zc1 ai ae⟩
      .grind
      .rw[Bd (by rw[h.mem.len];exact a8)];rfl
   trivial
  .rename_i id s1 n lo m h1
   rw[h1]at hx
   obtain⟨ad,cap,hv,aS,al,hc⟩:=hx
   split
   .rename_i rows s' hσ
    have cur:rows.length=n-> ∃b c0,β[id]? =some (.slice b n c0)/\cap=c0 - lo/\lo<=c0/\(lo<c0-> ∃k,b=some ⟨k,0,none⟩/\ad=some ⟨k,lo*s1,none⟩):=(by grind)
    have a8:id<σ.length:=(by grind)
    split
    .rename_i bd
     rintro⟨aj,rfl,rfl,hn,ae⟩
     obtain⟨b0,c0,hβ,rfl,aF,an⟩:=cur hn
     obtain⟨a2,aE,e1,aT,aR,a1,hok⟩:=h.mem.objs id _ _ hσ hβ
     cases e1
     clear hok cur hc
     obtain⟨news,ab,af⟩:=ym5 (P:=P) h.mem aj ax hy hs ae
     by_cases h0:r2= []
     .subst h0
      have a6:news= []:=B4 (by rw[ab.newsLen];simp)
      subst a6
      have hr:=zg5 (P:=P) (ty:=ty) hu hi ab aS.1 (base:=ad)
      rw[<-hv]at hr
      have au:σ.set id (.lst (rows.take (lo+m)++ []++rows.drop (lo+m+([]:List (List V)).length)) i.size)=σ:=(by simp_all[yI])
      rw[au]
      refine⟨_,w,L,β,.inl (ak hr),h.mem,Le.refl _ _,Ext.refl _ _, ?_⟩
      exact⟨ad,c0 - lo,hv,aS,al,(by grind)⟩
     .have br:0<r2.length:=(by grind)
      clear al
      have bf:lo<c0:=om
      obtain⟨k0,rfl,rfl⟩:=an bf
      clear an
      have aq:(rows.take (lo+m)++r2++rows.drop (lo+m+r2.length)).length=rows.length:=by simp;omega
      have aU:(lo+m)*i.size<=rows.length*i.size:=Ah _ om
      obtain⟨arr,T,fz,hh,hf,aA,aa,hle,ag⟩:=h.mem.lstPut (off:=(lo+m)*i.size) (vs:=r2.flatten) (rows2:=rows.take (lo+m)++r2++rows.drop (lo+m+r2.length)) hσ hβ om
       (af.imp fun _ _=>RdC.of_pure) aU (fun r hr=>by
        rcases B5.1 hr with hr|hr
        .rcases B5.1 hr with hr|hr
         .grind
         .exact ae r hr
        grind) (ym9 a1 ae om) om om
      have au:β.set id (.slice (some ⟨k0,0,none⟩) (rows.take (lo+m)++r2++rows.drop (lo+m+r2.length)).length c0)=β:=yI _ _ _ (by grind)
      rw[au]at aa ag
      have hr:=zl2 (P:=P) (ty:=ty) (o:=lo*i.size) (n:=m) (cap:=c0 - lo) hu hi ab om hh hf (by grind)
      rw[<-hv,<-B2]at hr
      refine⟨_,_,_,_,.inl (ak hr),aa,hle,ag, ?_⟩
      exact⟨_,c0 - lo,rfl,om,sM,(by grind)⟩
    .rename_i bd
     rintro⟨aj,rfl,rfl,hn,ae,rfl,rfl,hbound⟩
     obtain⟨b0,c0,hβ,bt,aF,an⟩:=cur hn
     have aV:c0=cap:=om
     subst aV
     have aW:=h.mem.objs id _ _ hσ hβ
     obtain⟨a2,aE,e1,aT,aR,a1,hok⟩:=aW
     cases e1
     clear hok cur hc al
     obtain⟨news,ab,af⟩:=ym5 (P:=P) h.mem aj ax hy hs ae
     have aq:(rows++r2).length=rows.length+r2.length:=sM
     by_cases ao:rows.length+r2.length<=c0
     .have bg:0<c0:=om
      obtain⟨k0,rfl,rfl⟩:=an bg
      clear an
      obtain⟨arr,T,fz,hh,hf,aA,aa,hle,ag⟩:=h.mem.lstPut (off:=rows.length*i.size) (vs:=r2.flatten) (rows2:=rows++r2) hσ hβ om
       (af.imp fun _ _=>RdC.of_pure) om (zc1 a1 ae) (by
        unfold putCells
        rw[C6,Ap (by rw[yA a1];omega),C3 (by rw[yA a1];omega),B9]) om om
      rw[D2]at hv
      have hr:=zl2 (P:=P) (ty:=ty) (o:=0) (n:=rows.length) (cap:=c0) hu hi ab ao hh hf om
      rw[<-hv,Ae]at hr
      rw[aq]at aa ag
      refine⟨_,_,_,_,.inl (ak hr),aa,hle,ag, ?_⟩
      exact⟨_,c0,rfl,om,sM,.inr ⟨_,Bd a8,om,(by grind)⟩⟩
     .obtain⟨ar,hold,aX,av⟩:=yK3 (P:=P) hu (h.mem.objs id _ _ hσ hβ)
      have bh:ad=b0∨c0=0:=by
       grind
      clear an
      have aI:(Builtin.firstCells i.size rows.length (.slice ad rows.length c0)).run P w.drew= .ok ar.toArray w.drew:=by
       rcases bh with rfl|rfl
       .omega
       .have bj:rows= []:=(by grind)
        subst bj
        have bk:ar= []:=B4 (by grind)
        subst bk
        cases ad with
        |none=>rfl
        |some a0=>exact(Src.ofSlice (P:=P) (size:=i.size) w hu a0 0 0 [] sM sM sM).cellsD
      obtain⟨ah,arr,aB,az,bm,hr⟩:=ym0 (P:=P) (w:=w) (tx:=tx) (ty:=ty) hu hi hz aJ aK aI aX ab om hbound
      rw[<-hv]at hr
      have hd:=h.mem.drew
      have aD:All2 (RdC w.drew L σ β) (rows++r2).flatten (arr.toList.take ((rows++r2).length*i.size)):=by
       rw[aq,bm,C6]
       exact(av.imp fun _ _=>RdC.mono hd.2 (Ext.refl _ _)).append (af.imp fun _ _ q=>RdC.of_pure (q.mono hd.2))
      obtain⟨aa,hle,ag⟩:=hd.1.lstRe (rows2:=rows++r2) (cap:=ah) (T:=el) hσ hβ hs (zc1 a1 ae) aD om om az
      rw[aq]at aa ag
      refine⟨_,_,_,_,.inl (ak hr),aa,hd.2.trans hle,ag, ?_⟩
      exact⟨_,ah,rfl,om,sM,.inr ⟨_,Bd a8,om,fun _=>⟨_,ah,Bd (by rw[h.mem.len];exact a8),rfl,om,sM⟩⟩⟩
   trivial
  trivial
 trivial
theorem yV6 {dst:Option Tmp} {pos:String} {aft:Array Edge} {g:Option (Nat×Bool)} (t tx:TypeId) (x y:Operand) (h:Sim c nt e σ a w L β):
  ROk (ze1 (elT P t) (lenT P tx) σ (zD e x) (zD e y)) σ (Yield P c ⟨dst,.call ⟨.builtin .append, #[x,y], #[t,tx]⟩,ty,pos,aft,g⟩ a w L σ β):=by
 have hx:=h.eval x
 have hy:=h.eval y
 unfold ze1
 split
 .rename_i id s1 n lo m h1
  split
  .rename_i s aT r2 a7 a1
   obtain⟨el,i,z,hu,hi,hz,rfl,rfl,a8,hs,aA⟩:=ze0 a7
   have ah: ∀{v w'},(Builtin.append_ #[t,tx] ty #[a.eval x,a.eval y]).run P w= .ok v w'->(execOp a.eval ⟨dst,.call ⟨.builtin .append, #[x,y], #[t,tx]⟩,ty,pos,aft,g⟩).run P w= .ok (.value v) w':=by
    intro v w' hr
    simp[execOp,resolve,invoke,builtin,hr]
   rw[h1]at hx
   obtain⟨ad,cap,hv,aG,ar,hc⟩:=hx
   split
   .rename_i rows s' hσ
    have cur:rows.length=n-> ∃b c0,β[id]? =some (.slice b n c0)/\cap=c0 - lo/\lo<=c0/\(lo<c0-> ∃k,b=some ⟨k,0,none⟩/\ad=some ⟨k,lo*s1,none⟩):=fun hn=>by
     rcases hc with hd|⟨rows2,aH,bg,hb⟩
     .rw[hσ]at hd;cases hd
     .rw[hσ]at aH;cases aH;exact hb hn.symm
    have av:id<σ.length:=(A6.1 hσ).1
    split
    .rename_i aI
     rintro⟨aw,rfl,rfl,hn,aj⟩
     obtain⟨b0,c0,hβ,rfl,ax,af⟩:=cur hn
     obtain⟨a2,aJ,e1,aK,aU,an,hok⟩:=h.mem.objs id _ _ hσ hβ
     cases e1
     clear hok cur hc
     obtain⟨news,ag,ak⟩:=xF0 (P:=P) h.mem aw a1 hy hs aj
     by_cases h0:r2= []
     .subst h0
      have aB:news= []:=B4 (by rw[ag.newsLen];simp)
      subst aB
      have hr:=zg5 (P:=P) (ty:=ty) hu hi ag aG.1 (base:=ad)
      rw[<-hv]at hr
      have ay:σ.set id (.lst (rows.take (lo+m)++ []++rows.drop (lo+m+([]:List (List V)).length)) i.size)=σ:=yI _ _ _ (by simp[hσ])
      rw[ay]
      refine⟨_,w,L,β,.inl (ah hr),h.mem,Le.refl _ _,Ext.refl _ _, ?_⟩
      exact⟨ad,c0 - lo,hv,aG,ar,.inr ⟨rows,hσ,Da hn.symm,fun _=>⟨b0,c0,hβ,rfl,ax,af⟩⟩⟩
     .have bh:0<r2.length:=List.length_pos_iff.2 h0
      clear ar
      have aV:lo<c0:=by clear af;omega
      obtain⟨k0,rfl,rfl⟩:=af aV
      clear af
      have aa:(rows.take (lo+m)++r2++rows.drop (lo+m+r2.length)).length=rows.length:=by simp;omega
      have aL:(lo+m)*i.size<=rows.length*i.size:=Ah _ om
      obtain⟨arr,T,fz,hh,hf,au,ab,hle,ae⟩:=h.mem.lstPut (off:=(lo+m)*i.size) (vs:=r2.flatten) (rows2:=rows.take (lo+m)++r2++rows.drop (lo+m+r2.length)) hσ hβ om
       ak aL (fun r hr=>by
        rcases B5.1 hr with hr|hr
        .rcases B5.1 hr with hr|hr
         .exact an r (Cu hr)
         .exact aj r hr
        .exact an r (List.mem_of_mem_drop hr)) (ym9 an aj om) (by rw[aa];exact A4 _) (by rw[aa];omega)
      have ay:β.set id (.slice (some ⟨k0,0,none⟩) (rows.take (lo+m)++r2++rows.drop (lo+m+r2.length)).length c0)=β:=yI _ _ _ (by rw[aa,hn];exact hβ)
      rw[ay]at ab ae
      have hr:=zl2 (P:=P) (ty:=ty) (o:=lo*i.size) (n:=m) (cap:=c0 - lo) hu hi ag om hh hf (by rw[B2]at au;exact au)
      rw[<-hv,<-B2]at hr
      refine⟨_,_,_,_,.inl (ah hr),ab,hle,ae, ?_⟩
      exact⟨_,c0 - lo,rfl,om,fun _=>⟨_,_,rfl⟩,.inr ⟨_,Bd av,by rw[aa];omega,fun _=>⟨_,c0,hβ,rfl,ax,fun _=>⟨k0,rfl,rfl⟩⟩⟩⟩
    .rename_i aI
     rintro⟨aw,rfl,rfl,hn,aj,rfl,rfl,hbound⟩
     obtain⟨b0,c0,hβ,aW,ax,af⟩:=cur hn
     have aP:c0=cap:=by rw[aW,Nat.sub_zero]
     subst aP
     have aQ:=h.mem.objs id _ _ hσ hβ
     obtain⟨a2,aJ,e1,aK,aU,an,hok⟩:=aQ
     cases e1
     clear hok cur hc ar
     obtain⟨news,ag,ak⟩:=xF0 (P:=P) h.mem aw a1 hy hs aj
     have aa:(rows++r2).length=rows.length+r2.length:=sM
     by_cases ao:rows.length+r2.length<=c0
     .have aX:0<c0:=by clear af;rw[Ae]at aI;omega
      obtain⟨k0,rfl,rfl⟩:=af aX
      clear af
      obtain⟨arr,T,fz,hh,hf,au,ab,hle,ae⟩:=h.mem.lstPut (off:=rows.length*i.size) (vs:=r2.flatten) (rows2:=rows++r2) hσ hβ om
       ak (A4 _) (zc1 an aj) (by
        unfold putCells
        rw[C6,Ap (by rw[yA an];exact A4 _),C3 (by rw[yA an];omega),B9]) (by rw[aa];omega) (by rw[aa];exact ao)
      rw[D2]at hv
      have hr:=zl2 (P:=P) (ty:=ty) (o:=0) (n:=rows.length) (cap:=c0) hu hi ag ao hh hf (by rw[Ae];exact au)
      rw[<-hv,Ae]at hr
      rw[aa]at ab ae
      refine⟨_,_,_,_,.inl (ah hr),ab,hle,ae, ?_⟩
      exact⟨_,c0,rfl,⟨ao,om⟩,fun _=>⟨_,_,rfl⟩,.inr ⟨_,Bd av,by rw[aa];exact A4 _,fun _=>⟨_,c0,Bd (by rw[h.mem.len];exact av),rfl,A3 _,fun _=>⟨k0,rfl,by rw[D2]⟩⟩⟩⟩
     .obtain⟨az,hold,a6,aq⟩:=yK3 (P:=P) hu (h.mem.objs id _ _ hσ hβ)
      have aY:ad=b0∨c0=0:=by
       by_cases h0:0<c0
       .obtain⟨k0,rfl,rfl⟩:=af h0
        exact .inl (by rw[D2])
       .exact .inr (Nat.eq_zero_of_not_pos h0)
      clear af
      have aC:(Builtin.firstCells i.size rows.length (.slice ad rows.length c0)).run P w.drew= .ok az.toArray w.drew:=by
       rcases aY with rfl|rfl
       .exact hold
       .have aZ:rows= []:=B4 om
        subst aZ
        have ba:az= []:=B4 (by rw[a6];simp)
        subst ba
        cases ad with
        |none=>exact(Src.ofNil (P:=P) (size:=i.size) w hu 0).cellsD
        |some a0=>exact(Src.ofSlice (P:=P) (size:=i.size) w hu a0 0 0 [] sM (fun j u h=>by simp at h) (fun _ h=>by cases h)).cellsD
      obtain⟨ai,arr,aD,aE,aF,hr⟩:=ym0 (P:=P) (w:=w) (tx:=tx) (ty:=ty) hu hi hz a8 aA aC a6 ag om hbound
      rw[<-hv]at hr
      have hd:=h.mem.drew
      have al:All2 (RdC w.drew L σ β) (rows++r2).flatten (arr.toList.take ((rows++r2).length*i.size)):=by
       rw[aa,aF,C6]
       exact(aq.imp fun _ _=>RdC.mono hd.2 (Ext.refl _ _)).append (ak.imp fun _ _=>RdC.mono hd.2 (Ext.refl _ _))
      obtain⟨ab,hle,ae⟩:=hd.1.lstRe (rows2:=rows++r2) (cap:=ai) (T:=el) hσ hβ hs (zc1 an aj) al om om aE
      rw[aa]at ab ae
      refine⟨_,_,_,_,.inl (ah hr),ab,hd.2.trans hle,ae, ?_⟩
      exact⟨_,ai,rfl,⟨aD,om⟩,fun _=>⟨_,_,rfl⟩,.inr ⟨_,Bd av,by rw[aa];exact A4 _,fun _=>⟨_,ai,Bd (by rw[h.mem.len];exact av),rfl,A3 _,fun _=>⟨_,rfl,by rw[D2];rfl⟩⟩⟩⟩
   .trivial
  .trivial
 split
 .rename_i s aT r2 a7 a1
  obtain⟨el,i,z,hu,hi,hz,rfl,rfl,a8,hs,aA⟩:=ze0 a7
  have ah: ∀{v w'},(Builtin.append_ #[t,tx] ty #[a.eval x,a.eval y]).run P w= .ok v w'->(execOp a.eval ⟨dst,.call ⟨.builtin .append, #[x,y], #[t,tx]⟩,ty,pos,aft,g⟩).run P w= .ok (.value v) w':=by
   intro v w' hr
   simp[execOp,resolve,invoke,builtin,hr]
  split
  .rename_i r1 h1
   rw[h1]at hx
   rintro⟨aw,hbound,aR,aj,bb⟩
   have aS:RdP w L (.sl .full r1) (a.eval x):=hx
   obtain⟨base,cap,hv,bc,bd⟩:=aS.len
   have hcap:=bd rfl
   subst hcap
   obtain⟨news,ag,ak⟩:=ym5 (P:=P) h.mem aw a1 hy hs aj
   by_cases h0:r2= []
   .have bf:=bb h0
    subst h0 bf
    have aB:news= []:=B4 (by rw[ag.newsLen];simp)
    subst aB
    have hr:=zg5 (P:=P) (ty:=ty) hu hi ag bc (base:=base)
    rw[<-hv]at hr
    have ab:=h.mem.lstNil (s:=i.size) (a:=base) hs
    refine⟨_,w,L,_,.inl (ah hr),by simpa using ab,Le.refl _ _,Ext.push _ _ h.mem.len _ _, ?_⟩
    refine⟨base,0,hv,⟨A4 _,A4 _⟩,fun q=>by simp at q,.inr ⟨[],sM,sM,fun _=>⟨base,0, ?_,rfl,A4 _,fun q=>om⟩⟩⟩
    rw[<-h.mem.len];simp
   .have ar:0<r2.length:=List.length_pos_iff.2 h0
    obtain⟨az,hold,aq,ax⟩:=ys4 hu hs aR (show RdP w L (.sl .ro r1) (.slice base r1.length r1.length) by rw[<-hv];exact RdP.weak aS)
    obtain⟨ai,arr,aD,aE,aF,hr⟩:=ym0 (P:=P) (w:=w) (tx:=tx) (ty:=ty) hu hi hz a8 aA hold ax ag om hbound
    rw[<-hv]at hr
    have hd:=h.mem.drew
    have aa:(r1++r2).length=r1.length+r2.length:=sM
    have al:All2 (RdC w.drew L σ β) (r1++r2).flatten (arr.toList.take ((r1++r2).length*i.size)):=by
     rw[aa,aF,C6]
     exact(aq.imp fun _ _ q=>RdC.of_pure (q.mono hd.2)).append (ak.imp fun _ _ q=>RdC.of_pure (q.mono hd.2))
    obtain⟨ab,hle,ae⟩:=hd.1.lstPush (cap:=ai) (T:=el) hs (zc1 aR aj) al om aE
    rw[aa]at ab ae
    refine⟨_,_,_,_,.inl (ah hr),ab,hd.2.trans hle,ae, ?_⟩
    refine⟨_,ai,rfl,⟨aD,om⟩,fun _=>⟨_,_,rfl⟩,.inr ⟨r1++r2,sM,by rw[aa];exact A4 _,fun _=>⟨_,ai, ?_,rfl,A3 _,fun _=>⟨_,rfl,by rw[D2]⟩⟩⟩⟩
    rw[<-h.mem.len];simp
  .trivial
 .trivial
end
section
variable {P:Program} {c:Ctx} {nt:Nat} {e:Env} {σ:St} {a:Act} {w:World} {L:Nat->Nat} {β:List Value} {o:Oper}
variable {dst:Option Tmp}{ty:TypeId}{aft:Array Edge}{g:Option (Nat×Bool)}{n:Nat}{cap:Nat}
theorem zR4 (arr:Array Value) (k:Nat): ∀(vs:List Value) (j:Nat) (cur:Array Value),(vs.zipIdx j).foldl (fun cs (p:Value×Nat)=>cs.setIfInBounds (k+p.2) p.1) cur=xF cur (k+j) vs
 | [],_,_=>rfl
 |v::vs,j,cur=>by
  rw[List.zipIdx_cons,Ba,zR4 arr k vs (j+1)]
  rfl
theorem zL1 {pl:Nat->Option (Nat×Nat)} {arr:Array Value} {i off s:Nat} {v:Value} {rest:List (Nat×Value)} (hp:pl i=some (off,s)) (hs:v.cells.size=s) (hle:off+s<=arr.size):
  Instr.fill pl arr ((i,v)::rest)=Instr.fill pl (xF arr off v.cells.toList) rest:=by
 rw[Instr.fill]
 simp only[hp]
 have h1:(v.cells.size≠s||decide (off+v.cells.size>arr.size))=false:=by grind
 rw[if_neg (by simp[hs];omega)]
 congr 1
 rw[<-Array.foldl_toList,Array.toList_zipIdx]
 exact zR4 arr off v.cells.toList 0 arr
def zn4:Nat->List (Nat×V)->Bool
 |_,[]=>true
 |k,(i,v)::r=>i==k&&za6 v&&zn4 (k+1) r
def zN8 (v:V):Bool:=(xE v).all zC2
def zH0 (v:V):List V:=(xE v).map dem
def zb4 (es:Option Nat) (len:Nat) (parts:List (Nat×V)):R:=
 match es with
 |some s=>if zn4 0 parts=true/\parts.length=len then .need ((∀p∈parts,zN8 p.2=true/\(xE p.2).length=s)/\len*s<=16777216/\0<s) (.sl .full (parts.map fun p=>zH0 p.2))else .fail
 |none=> .fail
theorem All2.map_left {α β γ:Type} {R:γ->β->Prop} {f:α->γ}: ∀{l:List α} {m:List β},All2 (fun x y=>R (f x) y) l m->All2 R (l.map f) m
 | [],[],_=>trivial
 |_::_,_::_,h=>⟨h.1,All2.map_left h.2⟩
 | [],_::_,h=>h.elim
 |_::_,[],h=>h.elim
theorem xL1 {v:V} {x:Value} (r:All2 (RdC w L σ β) (xE v) x.cells.toList) (hp:zN8 v=true):All2 (RdP w L) (zH0 v) x.cells.toList:=by
 unfold zN8 at hp
 unfold zH0
 refine All2.map_left ?_
 revert r hp
 generalize xE v=cs
 generalize x.cells.toList=xs
 intro r hp
 induction cs generalizing xs with
 |nil=>cases xs<;>simpa
 |cons p cs ih=>cases xs with
  |nil=>simpa
  |cons y ys=>
   simp at hp
   exact⟨RdC.dem r.1 hp.1,ih _ r.2 (by grind)⟩
theorem ys3 {s:Nat}: ∀(parts:List (Nat×V)) (aa:List (Nat×Value)) (k:Nat) (arr:Array Value) (done:List V),zn4 k parts=true->(∀p∈parts,zN8 p.2=true/\(xE p.2).length=s)->
  All2 (fun p q=>p.1=q.1/\RdS w L σ β p.2 q.2) parts aa->arr.size=(k+parts.length)*s->done.length=k*s->All2 (RdP w L) done (arr.toList.take (k*s))->
  ∃ab,Instr.fill (fun i=>some (i*s,s)) arr aa=some ab/\ab.size=arr.size/\All2 (RdP w L) (done++(parts.map fun p=>zH0 p.2).flatten) ab.toList
 | [],[],k,arr,done,_,_,_,af,hd,ae=>by
  refine⟨arr,rfl,rfl, ?_⟩
  grind[Ap]
 |(i,v)::parts,(i',x)::aa,k,arr,done,ho,hp,⟨⟨hi,hr⟩,ag⟩,af,hd,ae=>by
  simp only[zn4,A1,beq_iff_eq]at ho
  obtain⟨⟨rfl,ah⟩,ho⟩:=ho
  have ai:=hp (i,v) sM
  simp only at hi ai
  subst hi
  have ad:=zp5 hr ah
  have hlen:=ad.length
  simp only[Cl]at hlen
  have al:x.cells.size=s:=om
  simp only[Aa]at af
  have hm:(i+(parts.length+1))*s=i*s+s+parts.length*s:=by grind
  have ao:(i+1)*s=i*s+s:=by grind
  rw[zL1 (s:=s) rfl al om]
  have aj:=xL1 ad ai.1
  have aq:(zH0 v).length=s:=by grind[zH0]
  obtain⟨ab,h1,h2,h3⟩:=ys3 parts aa (i+1) (xF arr (i*s) x.cells.toList) (done++zH0 v) ho (fun p an=>hp p (by simp[an])) ag (by rw[xG,af];grind) (by grind) (by
   have ak:i*s+x.cells.toList.length<=arr.size:=by grind
   have e1:(xF arr (i*s) x.cells.toList).toList.take ((i+1)*s)=arr.toList.take (i*s)++x.cells.toList:=by
    apply Bn
    intro j
    rw[Aw]
    have ar:(List.take (i*s) arr.toList).length=i*s:=by grind
    by_cases hj:j<(i+1)*s
    .rw[if_pos hj,Aq,zg1 _ _ _ _ ak]
     grind
    grind
   rw[e1]
   exact ae.append aj)
  grind[xG]
 | [],_::_,_,_,_,_,_,h,_,_,_=>h.elim
 |_::_,[],_,_,_,_,_,h,_,_,_=>h.elim
theorem yi2 {s:Nat}: ∀(parts:List (Nat×V)) (aa:List (Nat×Value)) (k:Nat) (arr:Array Value) (done:List V),zn4 k parts=true->(∀p∈parts,(xE p.2).length=s)->
  All2 (fun p q=>p.1=q.1/\RdS w L σ β p.2 q.2) parts aa->arr.size=(k+parts.length)*s->done.length=k*s->All2 (RdC w L σ β) done (arr.toList.take (k*s))->
  ∃ab,Instr.fill (fun i=>some (i*s,s)) arr aa=some ab/\ab.size=arr.size/\All2 (RdC w L σ β) (done++(parts.map fun p=>xE p.2).flatten) ab.toList
 | [],[],k,arr,done,_,_,_,af,hd,ae=>by
  refine⟨arr,rfl,rfl, ?_⟩
  grind[Ap]
 |(i,v)::parts,(i',x)::aa,k,arr,done,ho,hp,⟨⟨hi,hr⟩,ag⟩,af,hd,ae=>by
  simp only[zn4,A1,beq_iff_eq]at ho
  obtain⟨⟨rfl,ah⟩,ho⟩:=ho
  have ai:=hp (i,v) sM
  simp only at hi ai
  subst hi
  have ad:=zp5 hr ah
  have hlen:=ad.length
  simp only[Cl]at hlen
  have al:x.cells.size=s:=om
  simp only[Aa]at af
  have hm:(i+(parts.length+1))*s=i*s+s+parts.length*s:=by grind
  have ao:(i+1)*s=i*s+s:=by grind
  rw[zL1 (s:=s) rfl al om]
  have aj:=ad
  have aq:(xE v).length=s:=ai
  obtain⟨ab,h1,h2,h3⟩:=yi2 parts aa (i+1) (xF arr (i*s) x.cells.toList) (done++xE v) ho (fun p an=>hp p (by simp[an])) ag (by rw[xG,af];grind) (by grind) (by
   have ak:i*s+x.cells.toList.length<=arr.size:=by grind
   have e1:(xF arr (i*s) x.cells.toList).toList.take ((i+1)*s)=arr.toList.take (i*s)++x.cells.toList:=by
    apply Bn
    intro j
    rw[Aw]
    have ar:(List.take (i*s) arr.toList).length=i*s:=by grind
    by_cases hj:j<(i+1)*s
    .rw[if_pos hj,Aq,zg1 _ _ _ _ ak]
     grind
    grind
   rw[e1]
   exact ae.append aj)
  grind[xG]
 | [],_::_,_,_,_,_,_,h,_,_,_=>h.elim
 |_::_,[],_,_,_,_,_,h,_,_,_=>h.elim
theorem All2.of_parts (h:Sim c nt e σ a w L β): ∀(ps:List (Nat×Operand)),All2 (fun p q=>p.1=q.1/\RdS w L σ β p.2 q.2) (ps.map fun p=>(p.1,zD e p.2)) (ps.map fun p=>(p.1,a.eval p.2))
 | []=>trivial
 |p::ps=>⟨⟨rfl,h.eval p.2⟩,All2.of_parts h ps⟩
theorem yp9 {pos:String} (t:TypeId) (len:Nat) (ps:Array (Nat×Operand)) (h:Sim c nt e σ a w L β):
  ROk (zb4 ((elT P t).map (·.1)) len (ps.toList.map fun p=>(p.1,zD e p.2))) σ (Yield P c ⟨dst,.buildSlice t len ps,ty,pos,aft,g⟩ a w L σ β):=by
 unfold zb4
 split
 .rename_i s ak
  split
  .rename_i ae
   obtain⟨ho,hlen⟩:=ae
   rintro⟨hp,al,hs⟩
   obtain⟨el,ai⟩: ∃b,elT P t=some (s,b):=by
    simp_all
   obtain⟨el,i,z,hu,hi,hz,rfl,_,an,_,_⟩:=ze0 ai
   have ab:=All2.of_parts h ps.toList
   have af: ∀aa,Instr.fill (fun k=>some (k*i.size,i.size)) ((Array.range (len*i.size)).map (z.cells[· %z.cells.size]!)) (ps.map fun(k,x)=>(k,a.eval x)).toList=some aa->
     (Instr.buildSlice t len (ps.map fun(k,x)=>(k,a.eval x))).run P w= .ok (.slice (some ⟨w.heap.size,0,none⟩) len len) (w.alloc (.cells aa el)):=by
    intro aa hf
    by_cases h0:len*i.size=0
    .have ao:len=0:=by
      rcases Nat.mul_eq_zero.1 h0 with h|h
      all_goals omega
     simp_all[Array.eq_empty_of_size_eq_zero,Instr.buildSlice,run_underlying,sizeOf,typeInfo,newRow]
    grind[run_buildSlice]
   have ag:(ps.map fun(k,x)=>(k,a.eval x)).toList=ps.toList.map fun p=>(p.1,a.eval p.2):=sM
   obtain⟨aa,hf,aq,ad⟩:=ys3 (s:=i.size) _ _ 0 ((Array.range (len*i.size)).map (z.cells[· %z.cells.size]!)) [] ho hp ab (by grind) sM (by simp[All2])
   rw[<-ag]at hf
   have hr:=af aa hf
   have aj:((ps.toList.map fun p=>(p.1,zD e p.2)).map fun p=>zH0 p.2).length=len:=by grind
   obtain⟨h1,h2⟩:=h.mem.alloc (.cells aa el) (len*i.size)
   refine⟨.slice (some ⟨w.heap.size,0,none⟩) len len,_,_,β,(by simp_all[execOp]),h1,h2,Ext.refl _ _, ?_⟩
   have ah:RdP (w.alloc (.cells aa el)) (xC L w.heap.size (len*i.size)) (.sl .full ((ps.toList.map fun p=>(p.1,zD e p.2)).map fun p=>zH0 p.2)) (.slice (some ⟨w.heap.size,0,none⟩) ((ps.toList.map fun p=>(p.1,zD e p.2)).map fun p=>zH0 p.2).length len):=by
    refine .of_row (xs:=aa.toList) hs (fun r hr=> ?_) (by grind[xC]) om sM om (yJ _ _) sM ?_
    .obtain⟨p,ar,rfl⟩:=Ad.1 hr
     grind[zH0]
    .simp only[Bi]at ad
     exact ad.imp (by grind[RdP.mono])
   rw[aj]at ah
   trivial
  trivial
 trivial
def plcT (P:Program) (t:TypeId):Option (List (Nat×Nat)):=
 match P.underlying t with
 |some (.struct fs)=>fs.toList.mapM fun f=>(P.info? f.type).map fun i=>(f.offset,i.size)
 |some (.array n el)=>(P.info? el).map fun i=>(List.range n).map fun k=>(k*i.size,i.size)
 |_=>none
def yw5 (pl:List (Nat×Nat)) (cells:List V):List (Nat×V)->Option (List V)
 | []=>some cells
 |(i,v)::r=>(match pl[i]? with
  |some (off,s)=>if za6 v=true/\(xE v).length=s/\off+s<=cells.length then yw5 pl (putCells cells off (xE v)) r else none
  |none=>none)
def zy3 (zs:Option (List V)) (pl:Option (List (Nat×Nat))) (parts:List (Nat×V)):R:=
 match zs,pl with
 |some z,some pl=>(match yw5 pl z parts with|some cs=> .ok (.agg cs)|none=> .fail)
 |_,_=> .fail
theorem yn4 {pl:List (Nat×Nat)} {ag:Nat->Option (Nat×Nat)} (ah: ∀i x,pl[i]? =some x->ag i=some x): ∀(parts:List (Nat×V)) (aa:List (Nat×Value)) (cells cs:List V) (arr:Array Value),yw5 pl cells parts=some cs->
  All2 (fun p q=>p.1=q.1/\RdS w L σ β p.2 q.2) parts aa->All2 (RdC w L σ β) cells arr.toList-> ∃ae,Instr.fill ag arr aa=some ae/\All2 (RdC w L σ β) cs ae.toList
 | [],[],cells,cs,arr,h,_,ab=>by simp[yw5]at h;subst h;exact⟨arr,rfl,ab⟩
 |(i,v)::parts,(i',x)::aa,cells,cs,arr,h,⟨⟨hi,hr⟩,af⟩,ab=>by
  simp only at hi
  subst hi
  rw[yw5]at h
  split at h
  .rename_i off s hp
   split at h
   .rename_i hc
    have ad:=zp5 hr hc.1
    have hl:=ad.length
    have ai:=ab.length
    simp only[Cl]at hl ai
    rw[zL1 (s:=s) (ah _ _ hp) (by rw[<-hl];exact hc.2.1) om]
    exact yn4 ah parts aa _ cs _ h af (by grind[zY2])
   grind
  grind
 | [],_::_,_,_,_,_,h,_=>h.elim
 |_::_,[],_,_,_,_,h,_=>h.elim
theorem xB4 {pos:String} (t:TypeId) (ps:Array (Nat×Operand)) (h:Sim c nt e σ a w L β):
  ROk (zy3 (zb0 P t) (plcT P t) (ps.toList.map fun p=>(p.1,zD e p.2))) σ (Yield P c ⟨dst,.build t ps,ty,pos,aft,g⟩ a w L σ β):=by
 unfold zy3
 split
 .rename_i z pl hz ad
  split
  .rename_i cs hf
   obtain⟨i,zv,hi,ag,ah,rfl⟩:=zG2 hz
   have ab:=All2.of_parts h ps.toList
   have ae:All2 (RdC w L σ β) (zv.cells.toList.map zc5) zv.cells.toList:=(zY1 ah).imp fun _ _=>RdC.of_pure
   have ai:(ps.map fun(k,x)=>(k,a.eval x)).toList=ps.toList.map fun p=>(p.1,a.eval p.2):=sM
   have af: ∃aa,P.built t (ps.map fun(k,x)=>(k,a.eval x)).toList=some aa/\All2 (RdC w L σ β) cs aa.toList:=by
    unfold plcT at ad
    unfold Program.built
    rw[hi,ai]
    split at ad
    .rename_i fs hu
     simp only[hu,ag,ad]
     exact yn4 sM _ _ _ _ _ hf ab ae
    .rename_i n el hu
     cases aj:P.info? el with
     |none=>grind
     |some ie=>
      simp only[aj,Bg,Option.some.injEq]at ad
      subst ad
      simp only[hu,ag,aj]
      refine yn4 (fun k x hk=> ?_) _ _ _ _ _ hf ab ae
      grind
    grind
   obtain⟨aa,hb,ak⟩:=af
   refine Yield.pure h (x:= .agg aa) ?_ ⟨aa.toList,sM,ak⟩
   simp_all[run_build,execOp]
  trivial
 trivial
def bnd (v:Option V) (d:Int):Option Int:=
 match v with
 |none=>some d
 |some (.int _ n)=>some n
 |some _=>none
def zn3 (ar:Option (Nat×Nat×Bool)) (k:Nat) (es:Option Nat) (x:V) (lo hi:Option V):R:=
 match x with
 | .lsv id s n l0 m=>(match bnd lo 0,bnd hi m,es with
  |some l,some h,some z=>if k=2 then .need (0<=l/\l<=h/\(h<=m∨(l0:Int)+h<=n)/\z=s) (.lsv id s n (l0+l.toNat) (h - l).toNat)else .fail
  |_,_,_=> .fail)
 | .ptr id off=>(match lo,hi,ar with
  |none,none,some (n,s,_)=> .ok (.bsv id s off n)
  |_,_,_=> .fail)
 | .str s=>(match bnd lo 0,bnd hi s.length with
  |some l,some h=>if k=1 then .need (0<=l/\l<=h/\h<=s.length) (.str ((s.take h.toNat).drop l.toNat))else .fail
  |_,_=> .fail)
 | .sl _ rows=>(match bnd lo 0,bnd hi rows.length,es with
  |some l,some h,some z=>if k=2 then .need (0<=l/\l<=h/\h<=rows.length/\uni z rows) (.sl .ro ((rows.take h.toNat).drop l.toNat))else .fail
  |_,_,_=> .fail)
 |_=> .fail
theorem zh1 {v:Value} {k:IntKind} {i:Int} {y:Nat} {code:BoundsCode} (hv:v= .int k i) (h0:0<=i) (hy:i<=y) (w:World):(Instr.sliceBound v y code).run P w= .ok i.toNat w:=by
 simp_all[Instr.sliceBound,asIntOf]
theorem xt2 {x:Option Operand} {d n:Int} (hb:bnd (x.map (zD e)) d=some n) (h:Sim c nt e σ a w L β):(x=none/\n=d)∨ ∃p k,x=some p/\a.eval p= .int k n:=by
 unfold bnd at hb
 split at hb
 .simp_all
 .rename_i k m hx
  cases x with
  |none=>grind
  |some p=>
   simp at hx hb
   subst hb
   exact .inr ⟨p,k,rfl,yK (hx▸h.eval p)⟩
 grind
theorem zF6 {isS:Bool} {len l hh:Nat} {lo hi:Option Value} (aa:(lo=none/\l=0)∨ ∃k,lo=some (.int k l)) (ab:(hi=none/\hh=len)∨ ∃k,hi=some (.int k hh)) (h1:l<=hh) (h2:hh<=cap) (w:World):
  (Instr.sliceBounds isS len cap lo hi none).run P w= .ok (l,hh,cap) w:=by
 rcases aa with ⟨rfl,rfl⟩|⟨k,rfl⟩<;>rcases ab with ⟨rfl,rfl⟩|⟨k',rfl⟩
 .rfl
 .have:=fun code=>zh1 (P:=P) (code:=code) (v:= .int k' hh) (y:=cap) rfl om om w
  simp_all[Instr.sliceBounds]
 .have:=fun code=>zh1 (P:=P) (code:=code) (v:= .int k l) (y:=hh) rfl om om w
  simp_all[Instr.sliceBounds]
 .have e1:=fun code=>zh1 (P:=P) (code:=code) (v:= .int k l) (y:=hh) rfl om om w
  have e2:=fun code=>zh1 (P:=P) (code:=code) (v:= .int k' hh) (y:=cap) rfl om om w
  simp_all[Instr.sliceBounds]
theorem yT2 (s:List UInt8) (l h:Nat):(ByteArray.mk s.toArray).extract l h=ByteArray.mk ((s.take h).drop l).toArray:=by
 apply ByteArray.ext
 grind[ByteArray.data_extract]
theorem RdP.sub {rows:List (List V)} {s l hh:Nat} {ad:Option Addr} (r:RdP w L (.sl .ro rows) (.slice ad n cap)) (hs:0<s) (hu:uni s rows) (h1:l<=hh) (h2:hh<=rows.length):
  RdP w L (.sl .ro ((rows.take hh).drop l)) (.slice (if cap=l then ad else ad.map (·.add (l*s))) (hh - l) (cap - l)):=by
 have hlen:((rows.take hh).drop l).length=hh - l:=by grind
 by_cases h0:hh - l=0
 .have ae:(rows.take hh).drop l= []:=(by grind)
  rw[ae,h0]
  exact .sl0 _ _ _ sM sM
 .have af:rows≠ []:=(by grind)
  obtain⟨s',b,o',aj,e1,ag,aa,hlim,hcap,_,hc⟩:=r.flat af
  cases e1
  have ah:s'=s:=by
   obtain⟨r0,rest,rfl⟩:=Bq af
   rw[<-aa r0 sM,hu r0 sM]
  subst ah
  rw[if_neg om]
  simp only[Bg,wA]
  have hm:(rows.length)*s'=l*s'+(hh - l)*s'+(rows.length - hh)*s':=by rw[<-B2,<-B2];grind
  rw[<-hlen]
  have ab:uni s' ((rows.take hh).drop l):=fun q hq=>aa q (by grind)
  refine .of_flat ag ab (by grind) om sM sM fun k v hk=> ?_
  have ak:k<(hh - l)*s':=by
   have:=(A6.1 hk).1
   rwa [yA ab,hlen]at this
  have hi:k/s'<hh - l:=by simp_all[Bz]
  have hj:k%s'<s':=Cn _ ag
  have ai:k=k/s'*s'+k%s':=by grind[Cz]
  rw[ai,yN _ _ ab hj]at hk
  rw[Bt,Aw,if_pos om]at hk
  have al:rows.flatten[(l+k/s')*s'+k%s']? =some v:=by rw[yN _ _ aa hj];exact hk
  grind
theorem xC3 {pos:String} (t:TypeId) (x:Operand) (lo hi:Option Operand) (h:Sim c nt e σ a w L β):
  ROk (zn3 (arrT P t) (lenT P t) ((elT P t).map (·.1)) (zD e x) (lo.map (zD e)) (hi.map (zD e))) σ (Yield P c ⟨dst,.slice t x lo hi none,ty,pos,aft,g⟩ a w L σ β):=by
 have hx:=h.eval x
 have conv: ∀{z:Option Operand} {d n:Int} {m:Nat},bnd (z.map (zD e)) d=some n->n=m-> ∀{dn:Nat},d=dn->((z.map a.eval)=none/\m=dn)∨ ∃k,(z.map a.eval)=some (.int k m):=by
  intro z d n m hz hn dn hd
  rcases xt2 hz h with ⟨rfl,q⟩|⟨p,k,rfl,q⟩
  all_goals grind
 unfold zn3
 split
 .rename_i id s n l0 m h1
  rw[h1]at hx
  split
  .rename_i l hh z hl aa hz
   split
   .rename_i hk
    obtain⟨ai,aj⟩:=zN3 hk
    rintro⟨a0,a1,a2,rfl⟩
    have r1:=conv hl (m:=l.toNat) om (dn:=0) rfl
    have r2:=conv aa (m:=hh.toNat) om (dn:=m) rfl
    obtain⟨ak,ab⟩: ∃b,elT P t=some (z,b):=by
     simp_all
    obtain⟨el,i,zz,hu,al,an,rfl,_,ao,hs,_⟩:=ze0 ab
    obtain⟨ad,cap,hv,aw,ae,hc⟩:=hx
    have aq:hh.toNat<=cap:=om
    have:=zF6 (P:=P) (isS:=true) (len:=m) (cap:=cap) r1 r2 om aq w
    refine Yield.pure h (x:= .slice (if cap=l.toNat then ad else ad.map (·.add (l.toNat*i.size))) (hh.toNat - l.toNat) (cap - l.toNat)) ?_ ?_
    .simp_all[execOp,Instr.sliceAt,run_underlying,Instr.slice,sizeOf,typeInfo]
    .refine⟨_,cap - l.toNat,by rw[show(hh - l).toNat=hh.toNat - l.toNat by omega],om,fun hp=> ?_, ?_⟩
     .obtain⟨b,o,rfl⟩:=ae om
      rw[if_neg om]
      simp[wA]
     .rcases hc with hd|⟨rows,hσ,hn,hb⟩
      .grind
      .refine .inr ⟨rows,hσ,hn,fun q1=> ?_⟩
       obtain⟨b0,c0,hβ,ax,ar,af⟩:=hb q1
       clear hb ae
       refine⟨b0,c0,hβ,om,om,fun ay=> ?_⟩
       obtain⟨k0,e1,e2⟩:=af om
       simp_all[wA,B2];omega
   trivial
  trivial
 .rename_i id off h1
  rw[h1]at hx
  split
  .rename_i n sz ag ar az au
   obtain⟨bl,hb,hv⟩:=hx
   obtain⟨el,hu,ab,_⟩:=zK5 au
   have e1:lo=none:=by simp_all
   have e2:hi=none:=by simp_all
   subst e1 e2
   refine Yield.pure h (x:= .slice (some ⟨bl,off,none⟩) n n) ?_ ⟨bl,hb,rfl⟩
   simp_all[execOp,Instr.sliceAt,run_underlying,Instr.sureAddr,Instr.sliceBounds,wZ,wA]
  trivial
 .rename_i s h1
  rw[h1]at hx
  split
  .rename_i l hh hl aa
   split
   .rename_i hk
    have hu:=xd3 hk
    rintro⟨a0,a1,a2⟩
    have r1:=conv hl (m:=l.toNat) om (dn:=0) rfl
    have r2:=conv aa (m:=hh.toNat) om (dn:=s.length) rfl
    refine Yield.pure h (x:= .string ⟨((s.take hh.toNat).drop l.toNat).toArray⟩) ?_ (RdP.str _)
    have:=zF6 (P:=P) (isS:=false) (len:=(ByteArray.mk s.toArray).size) (cap:=(ByteArray.mk s.toArray).size) r1 (by rw[zu5];exact r2) om (by rw[zu5];omega) w
    simp[execOp,za3 hx,Instr.sliceAt,run_underlying hu,Instr.slice,this,yT2]
   trivial
  trivial
 .rename_i gg rows h1
  rw[h1]at hx
  split
  .rename_i l hh z hl aa hz
   split
   .rename_i hk
    obtain⟨ai,aj⟩:=zN3 hk
    rintro⟨a0,a1,a2,av⟩
    have r1:=conv hl (m:=l.toNat) om (dn:=0) rfl
    have r2:=conv aa (m:=hh.toNat) om (dn:=rows.length) rfl
    obtain⟨ak,ab⟩: ∃b,elT P t=some (z,b):=by
     simp_all
    obtain⟨el,i,zz,hu,al,an,rfl,_,ao,hs,_⟩:=ze0 ab
    have hr:=zw9 hx
    obtain⟨base,cap,hv,a6,_⟩:=hr.len
    rw[hv]at hr
    have ah:=hr.sub (l:=l.toNat) (hh:=hh.toNat) hs av om om
    refine Yield.pure h (x:= .slice (if cap=l.toNat then base else base.map (·.add (l.toNat*i.size))) (hh.toNat - l.toNat) (cap - l.toNat)) ?_ ah
    have:=zF6 (P:=P) (isS:=true) (len:=rows.length) (cap:=cap) r1 r2 om om w
    simp_all[execOp,Instr.sliceAt,run_underlying,Instr.slice,sizeOf,typeInfo]
   trivial
  trivial
 trivial
def zr1 (k:Nat) (es:Option Nat) (σ:St) (x lo:V):R:=
 match x,lo,es with
 | .sl (.app id) rows,.int _ l,some z=>(match σ[id]? with
  |some (.app n s)=>if k=2 then .needst (0<=l/\l<=rows.length/\rows.length=n/\z=s) (.sl (.app σ.length) (rows.drop l.toNat)) (σ.set id (.app (n+1) s)++ [.app (n - l.toNat) s])else .fail
  |_=> .fail)
 |_,_,_=> .fail
theorem Ext.setApp {i s m:Nat} {x y:Value} (hi:σ[i]? =some (.app n s)) (hβ:β[i]? =some x) (hx: ∀a,x≠ .pointer a) (aa:n<m):
  Ext σ β (σ.set i (.app m s)) (β.set i y):=by
 have ab:i<σ.length:=(by grind)
 refine⟨(by grind),(by grind),(by grind),(by grind)⟩
 all_goals grind
theorem xo9 {pos:String} (t:TypeId) (x lo:Operand) (h:Sim c nt e σ a w L β):
  ROk (zr1 (lenT P t) ((elT P t).map (·.1)) σ (zD e x) (zD e lo)) σ (Yield P c ⟨dst,.slice t x (some lo) none none,ty,pos,aft,g⟩ a w L σ β):=by
 have hx:=h.eval x
 have ah:=h.eval lo
 unfold zr1
 split
 .rename_i id rows kk l z h1 h2 hz
  rw[h1]at hx
  rw[h2]at ah
  split
  .rename_i n s hσ
   split
   .rename_i hk
    obtain⟨a7,a8⟩:=zN3 hk
    rintro⟨a0,a1,hn,ai⟩
    subst ai
    obtain⟨aA,an⟩: ∃b,elT P t=some (z,b):=by
     simp_all
    obtain⟨el,i,zz,hu,aB,aC,rfl,_,aD,hs,_⟩:=ze0 an
    obtain⟨hr,n',s',e1,hle,ao,aq⟩:=hx
    rw[hσ]at e1;cases e1
    have hβ:=ao hn
    have hok:=h.mem.objs id _ _ hσ hβ
    obtain⟨ad,cap,hv,ar,aj,aa⟩:=hok
    rw[hv]at hr hβ
    have aE:id<σ.length:=(by grind)
    subst hn
    have ae:=hr.sub (l:=l.toNat) (hh:=rows.length) hs aq om om
    rw[Ap (A4 _)]at ae
    have hb:=zF6 (P:=P) (isS:=true) (len:=rows.length) (cap:=cap) (l:=l.toNat) (hh:=rows.length) (lo:=some (a.eval lo)) (hi:=none) (.inr ⟨kk,by rw[yK ah];grind⟩) sM om ar w
    have ab:Ext σ β (σ.set id (.app (rows.length+1) i.size)) (β.set id (.slice none (rows.length+1) (rows.length+1))):=(by grind[Ext.setApp])
    have ak:Mem c w L (σ.set id (.app (rows.length+1) i.size)) (β.set id (.slice none (rows.length+1) (rows.length+1))):=by
     refine h.mem.upd id _ _ (Le.refl _ _) ab (fun _=>False) sM sM sM rfl rfl rfl rfl h.mem.lim ?_ (fun b q=> ?_)
     .exact⟨none,_,rfl,om,aj,om⟩
     trivial
    have hex: ∀b,excl (.app (rows.length - l.toNat) i.size) (.slice (if cap=l.toNat then ad else ad.map (·.add (l.toNat*i.size))) (rows.length - l.toNat) (cap - l.toNat))=some b->excl (.app rows.length i.size) (.slice ad rows.length cap)=some b:=fun b q=>by
     clear aa
     by_cases q1:cap=l.toNat
     .rw[if_pos q1]at q
      cases ad<;>simp_all[excl]
     .rw[if_neg q1]at q
      cases ad with
      |none=>simpa
      |some a1=>
       simp only[excl,Bg]at q⊢
       split at q
       .rename_i q2
        rw[if_pos om]
        rw[<-q];unfold Addr.add;grind
       grind
    have au:=ak.push (.app (rows.length - l.toNat) i.size) (.slice (if cap=l.toNat then ad else ad.map (·.add (l.toNat*i.size))) (rows.length - l.toNat) (cap - l.toNat))
     ⟨_,_,rfl,om,aj,fun q=>by
      have q0:rows.length<cap:=om
      obtain⟨b,o,arr,T,fz,rfl,hh,hf,a6,hL⟩:=aa q0
      have q1: ¬cap=l.toNat:=om
      refine⟨b,o+l.toNat*i.size,arr,T,fz,by simp_all[wA],hh,hf, ?_, ?_⟩
      .rw[Do,<-B2]
       grind
      .rw[hL,Do,<-B2]
       grind⟩
     (fun j o' x' b av al he af=>by
      have aw:=hex b af
      rcases zg0 av with ⟨rfl,rfl,_⟩|⟨ax,ay⟩
      .rcases zg0 al with ⟨_,rfl,_⟩|⟨q,_⟩
       all_goals trivial
      .rcases zg0 al with ⟨q,_,_⟩|⟨_,az⟩
       .omega
       .exact h.mem.apart j id _ _ _ _ b ax ay az hσ hβ he aw)
     (fun b af=>h.mem.mine id _ _ b hσ hβ (hex b af))
    have ag:=ab.trans (Ext.push _ _ ak.len (.app (rows.length - l.toNat) i.size) (.slice (if cap=l.toNat then ad else ad.map (·.add (l.toNat*i.size))) (rows.length - l.toNat) (cap - l.toNat)))
    refine⟨_,w,L,_,.inl ?_,au,Le.refl _ _,ag,ae,rows.length - l.toNat,i.size,sM,sM,fun _=>by simp[h.mem.len],(by grind)⟩
    simp_all[execOp,Instr.sliceAt,run_underlying,Instr.slice,sizeOf,typeInfo]
   trivial
  trivial
 trivial
def zr0 (es:Option Nat) (x lo hi mx:V):R:=
 match x,lo,hi,mx,es with
 | .sl _ rows,.int _ l,.int _ h,.int _ m,some z=> .need (0<=l/\l<=h/\h<=rows.length/\m=h/\uni z rows) (.sl .full ((rows.take h.toNat).drop l.toNat))
 | .lsv _ s _ _ n,.int _ l,.int _ h,.int _ m,some z=> .need (0<=l/\l<=h/\h<=m/\m<=n/\z=s) (if l=m then .sl .full []else .u)
 |_,_,_,_,_=> .fail
theorem RdP.full {rows:List (List V)} {ad:Option Addr} (r:RdP w L (.sl .ro rows) (.slice ad n n)) (hn:n=rows.length):RdP w L (.sl .full rows) (.slice ad n n):=by
 cases r with
 |sl0 _ a cap hg ha=>exact .sl0 _ _ _ om sM
 |sl _ _ s b o cap c ha hs hlen hlim hcap hg hc hr=>exact .sl _ rows s b o _ c sM hs hlen hlim hcap om hc hr
theorem RdP.shrink {rows:List (List V)} {s M:Nat} {base:Option Addr} (hr:RdP w L (.sl .ro rows) (.slice base n cap)) (hs:0<s) (ad:uni s rows) (hM:M<=rows.length):RdP w L (.sl .ro (rows.take M)) (.slice base M M):=by
 have hlen:(rows.take M).length=M:=by grind
 by_cases h0:M=0
 .subst h0
  exact .sl0 _ _ _ om sM
 .have aa:rows≠ []:=(by grind)
  obtain⟨s',b,o',ag,q,ae,ab,hlim,hcap,_,hc⟩:=hr.flat aa
  cases q
  have af:s'=s:=by
   obtain⟨r0,rest,rfl⟩:=Bq aa
   rw[<-ab r0 sM,ad r0 sM]
  subst af
  have hm:M*s'<=rows.length*s':=Ah _ hM
  have key:RdP w L (.sl .ro (rows.take M)) (.slice (some ⟨b,o',none⟩) (rows.take M).length M):=by
   refine .of_flat ae (fun q hq=>ab q (by grind)) (by grind) om sM om fun k v hk=>hc k v ?_
   grind[Bo]
  grind
theorem xo8 {pos:String} (t:TypeId) (x lo hi mx:Operand) (h:Sim c nt e σ a w L β):
  ROk (zr0 ((elT P t).map (·.1)) (zD e x) (zD e lo) (zD e hi) (zD e mx)) σ (Yield P c ⟨dst,.slice t x (some lo) (some hi) (some mx),ty,pos,aft,g⟩ a w L σ β):=by
 have hx:=h.eval x
 have h2:=h.eval lo
 have h3:=h.eval hi
 have h4:=h.eval mx
 unfold zr0
 split
 .rename_i gg rows k1 l k2 hh k3 m z e1 e2 e3 e4 hz
  rw[e1]at hx;rw[e2]at h2;rw[e3]at h3;rw[e4]at h4
  have e2:=yK h2;have e3:=yK h3;have e4:=yK h4
  rintro⟨a0,a1,a2,rfl,af⟩
  obtain⟨ag,ab⟩: ∃b,elT P t=some (z,b):=by
   simp_all
  obtain⟨el,i,zz,hu,ah,ai,rfl,_,aj,hs,_⟩:=ze0 ab
  have hr:=zw9 hx
  obtain⟨base,cap,hv,al,_⟩:=hr.len
  rw[hv]at hr
  have ae:=hr.shrink (M:=m.toNat) hs af om
  have aa:=ae.sub (l:=l.toNat) (hh:=m.toNat) hs (fun q hq=>af q (by grind)) om (by grind)
  rw[List.take_take,Nat.min_self]at aa
  refine Yield.pure h (x:= .slice (if m.toNat=l.toNat then base else base.map (·.add (l.toNat*i.size))) (m.toNat - l.toNat) (m.toNat - l.toNat)) ?_ (aa.full (by grind))
  have b1:=fun code=>zh1 (P:=P) (code:=code) e2 a0 (show l<=(m.toNat:Nat) by omega) w
  have b2:=fun code=>zh1 (P:=P) (code:=code) e3 om (show m<=(m.toNat:Nat) by omega) w
  have b3:=fun code=>zh1 (P:=P) (code:=code) e4 om (show m<=(cap:Nat) by omega) w
  simp_all[run_underlying,execOp,Instr.sliceAt,Instr.slice,Instr.sliceBounds,sizeOf,typeInfo]
 .rename_i id s n0 an n k1 l k2 hh k3 m z e1 e2 e3 e4 hz
  rw[e1]at hx;rw[e2]at h2;rw[e3]at h3;rw[e4]at h4
  have e2:=yK h2;have e3:=yK h3;have e4:=yK h4
  rintro⟨a0,a1,a2,a3,rfl⟩
  obtain⟨ag,ab⟩: ∃b,elT P t=some (z,b):=by
   simp_all
  obtain⟨el,i,zz,hu,ah,ai,rfl,_,aj,hs,_⟩:=ze0 ab
  obtain⟨ad,cap,hv,ak,_,_⟩:=hx
  refine Yield.pure h (x:= .slice (if m.toNat=l.toNat then ad else ad.map (·.add (l.toNat*i.size))) (hh.toNat - l.toNat) (m.toNat - l.toNat)) ?_ (by
   split
   .have h1:hh.toNat - l.toNat=0:=om
    have h2:m.toNat - l.toNat=0:=om
    rw[h1,h2]
    exact RdP.sl0 _ _ _ om sM
   trivial)
  have b1:=fun code=>zh1 (P:=P) (code:=code) e2 a0 (show l<=(hh.toNat:Nat) by omega) w
  have b2:=fun code=>zh1 (P:=P) (code:=code) e3 om (show hh<=(m.toNat:Nat) by omega) w
  have b3:=fun code=>zh1 (P:=P) (code:=code) e4 om (show m<=(cap:Nat) by have:=ak.1;omega) w
  simp_all[execOp,Instr.sliceAt,run_underlying,Instr.slice,Instr.sliceBounds,sizeOf,typeInfo]
 trivial
end
section
variable {P:Program} {c:Ctx} {nt:Nat} {e:Env} {σ:St} {a:Act} {w:World} {L:Nat->Nat} {β:List Value} {o:Oper}
variable {dst:Option Tmp}{ty:TypeId}{aft:Array Edge}{g:Option (Nat×Bool)}{t:TypeId}
def zq3:List V->UInt8
 | [.int _ n]=>UInt8.ofNat n.toNat
 |_=>0
def zR6 (rows:List (List V)):Prop:= ∀r∈rows,∃n,r= [.int .u8 n]
theorem wY (s:List UInt8):zR6 (zO s):=fun r hr=>by
 obtain⟨b,_,rfl⟩:=Ad.1 hr;simp
theorem zk1 (s:List UInt8):(zO s).map zq3=s:=by
 simp[zO,Bk,zq3]
def zD8 (ks kd:Option Kd) (x:V):R:=
 match kd,x with
 |some (.int k),.int _ n=>if ks.isSome then .ok (.int k (k.wrap n))else .fail
 |some .str,.str s=>if ks.isSome then .ok (.str s)else .fail
 |some .bytes,.str s=>if ks=some .str then .ok (.sl .ro (zO s))else .fail
 |some .str,.sl _ rows=>if ks=some .bytes then .need (zR6 rows) (.str (rows.map zq3))else .fail
 |_,_=> .fail
theorem xN0 {k:IntKind} (h:kdT P t=some (.int k)):P.underlying t=some (.int k):=by
 grind[kdT]
theorem zL3 (h:kdT P t=some .str):P.underlying t=some .string:=by
 grind[kdT]
theorem zW1 (h:kdT P t=some .bytes): ∃el,P.underlying t=some (.slice el)/\P.underlying el=some (.int .u8):=by
 grind[kdT]
theorem yJ6 (h:(kdT P t).isSome=true): ∃d,P.underlying t=some d:=by
 grind[kdT]
theorem xp7 {rows:List (List V)} (h:zR6 rows): ∃xs:List Int,rows=xs.map (fun n=> [V.int .u8 n]):=by
 induction rows with
 |nil=>simp
 |cons r rows ih=>
  obtain⟨n,hn⟩:=h r sM
  obtain⟨xs,hx⟩:=ih fun q hq=>h q (by grind)
  exact⟨n::xs,by grind⟩
theorem xO2 {pos:String} (t t':TypeId) (x:Operand) (h:Sim c nt e σ a w L β):
  ROk (zD8 (kdT P t) (kdT P t') (zD e x)) σ (Yield P c ⟨dst,.convert t t' x,ty,pos,aft,g⟩ a w L σ β):=by
 have hx:=h.eval x
 unfold zD8
 split
 .rename_i k k' n hk h1
  rw[h1]at hx
  split
  .rename_i hs
   obtain⟨d,hd⟩:=yJ6 hs
   exact Yield.pure h (x:= .int k (k.wrap n)) (by simp[execOp,yK hx,convert,run_underlying hd,run_underlying (xN0 hk),Conv.intToInt]) (RdP.int _ _)
  trivial
 .rename_i s hk h1
  rw[h1]at hx
  split
  .rename_i hs
   obtain⟨d,hd⟩:=yJ6 hs
   exact Yield.pure h (x:= .string ⟨s.toArray⟩) (by simp[execOp,za3 hx,convert,run_underlying hd,run_underlying (zL3 hk)]) (RdP.str _)
  trivial
 .rename_i s hk h1
  rw[h1]at hx
  split
  .rename_i hs
   obtain⟨el,hu,he⟩:=zW1 hk
   have hr:=run_bytes_of_string (P:=P) w t t' el ⟨s.toArray⟩ (zL3 hs) hu he
   have hd:=h.mem.drew
   obtain⟨h1,h2⟩:=hd.1.alloc (.cells (bytesRow ⟨s.toArray⟩ (grownCap w (ByteArray.mk s.toArray).size 0 el)) el ((bytesRow ⟨s.toArray⟩ (grownCap w (ByteArray.mk s.toArray).size 0 el)).size,(bytesRow ⟨s.toArray⟩ (grownCap w (ByteArray.mk s.toArray).size 0 el)).size+1)) s.length
   refine⟨_,_,_,β,.inl (by simp only[execOp,za3 hx,Sem.run_bind,hr,Result.andThen_ok,Sem.run_pure];rfl),h1,hd.2.trans h2,Ext.refl _ _, ?_⟩
   have ag:=grownCap_ge w (ByteArray.mk s.toArray).size 0 el
   have hl:(zO s).length=s.length:=by simp[zO]
   have:RdP (w.drew.alloc (.cells (bytesRow ⟨s.toArray⟩ (grownCap w (ByteArray.mk s.toArray).size 0 el)) el ((bytesRow ⟨s.toArray⟩ (grownCap w (ByteArray.mk s.toArray).size 0 el)).size,(bytesRow ⟨s.toArray⟩ (grownCap w (ByteArray.mk s.toArray).size 0 el)).size+1))) (xC L w.drew.heap.size s.length) (.sl .ro (zO s)) (.slice (some ⟨w.drew.heap.size,0,none⟩) (zO s).length (grownCap w (ByteArray.mk s.toArray).size 0 el)):=by
    refine .of_row (xs:=byteCells ⟨s.toArray⟩) (s:=1) om (zQ2 s) (by grind[xC]) (by grind[zu5]) sM sM (yJ _ _) (fun k v hk=> ?_) (zq0 s)
    have ah:=(A6.1 hk).1
    simp_all[bytesRow,Dp,byteCells]
   rw[hl,<-zu5 s]at this
   simpa
  trivial
 .rename_i gg rows hk h1
  rw[h1]at hx
  split
  .rename_i hs
   obtain⟨el,hu,he⟩:=zW1 hs
   intro hb
   obtain⟨xs,rfl⟩:=xp7 hb
   have hr:=zw9 hx
   have ab:(xs.map fun n=> [V.int .u8 n]).map zq3=xs.map fun n:Int=>UInt8.ofNat n.toNat:=by rw[Bh];rfl
   rw[ab]
   refine Yield.pure h (x:= .string ⟨(xs.map fun n:Int=>UInt8.ofNat n.toNat).toArray⟩) ?_ (RdP.str _)
   by_cases h0:xs= []
   .subst h0
    obtain⟨base,cap,hv,_,_⟩:=hr.len
    have aa:(convert t t' (.slice base 0 cap)).run P w= .ok (.string ByteArray.empty) w:=by
     cases base with
     |none=>grind[run_convert_bytes_nil,zL3]
     |some ad=>
      obtain⟨b,off,sp⟩:=ad
      rw[run_convert_bytes_string w t t' el _ 0 cap hu he (zL3 hk),run_bytesToString w _ 0 cap [] (by simp[loadCells,loadCellsFrom])]
      rfl
    simp only[Bm,Db]at hv
    simp only[execOp,hv,Sem.run_bind,aa,Result.andThen_ok,Sem.run_pure]
    rfl
   .obtain⟨s,b,o',cap,hv,ai,ae,_,_,_,hc⟩:=hr.flat (by simp_all)
    have af:s=1:=by
     obtain⟨n,rest,rfl⟩:=Bq h0
     exact(ae [.int .u8 n] sM).symm
    subst af
    have aa:=run_convert_bytes_arg (P:=P) w t el hu he b o' xs.length cap xs rfl (fun i hi=>by
     obtain⟨y,hy,r⟩:=hc i (.int .u8 (xs.getD i 0)) (by
      have:=yN (rows:=xs.map fun n=> [V.int .u8 n]) i 0 ae om
      grind)
     have:y= .int .u8 (xs.getD i 0):=by cases r;rfl
     grind) t' (zL3 hk)
    simp only[An]at hv
    simp only[execOp,hv,Sem.run_bind,aa,Result.andThen_ok,Sem.run_pure]
    rfl
  trivial
 trivial
def zy5 (fl:Option (Nat×Nat×Bool)) (x:V):R:=
 match fl,x with
 |some (off,s,true),.agg cs=>if off+s<=cs.length then .ok (.agg ((cs.drop off).take s))else .fail
 |some (off,_,false),.agg cs=>(match cs[off]? with|some v=> .ok v|none=> .fail)
 |_,_=> .fail
theorem xB8 {pos:String} (t:TypeId) (x:Operand) (f:Nat) (h:Sim c nt e σ a w L β):
  ROk (zy5 (fldT P t f) (zD e x)) σ (Yield P c ⟨dst,.field t x f,ty,pos,aft,g⟩ a w L σ β):=by
 have hx:=h.eval x
 unfold zy5
 split
 .rename_i off s cs hf h1
  rw[h1]at hx
  split
  .rename_i hle
   obtain⟨xs,hv,aa⟩:=hx
   obtain⟨fs,fd,hu,ab,rfl,hs,hb,h0⟩:=zV5 hf
   have hl:=aa.length
   refine Yield.pure h (x:= .agg ((xs.drop fd.offset).take s).toArray) ?_ ⟨_,rfl,(aa.drop _).take _⟩
   simp_all[execOp,Instr.field,run_underlying,asAgg,part,zl1,wZ]
  trivial
 .rename_i off s cs hf h1
  rw[h1]at hx
  split
  .rename_i v ad
   obtain⟨xs,hv,aa⟩:=hx
   obtain⟨fs,fd,hu,ab,rfl,hs,hb,h0⟩:=zV5 hf
   obtain⟨y,hy,r⟩:=aa.get _ _ ad
   refine Yield.pure h (x:=y) ?_ (RdS.of_cell r)
   simp_all[execOp,Instr.field,run_underlying,asAgg,part,zl1]
  trivial
 trivial
def isK (v:V):Bool:=zC2 v||(match v with| .ptr _ _| .elp _ _| .lsv _ _ _ _ _| .lsp _ _ _ _ _| .bsv _ _ _ _| .mp _=>true|_=>false)
theorem wf8 {v:V} {x:Value} (r:RdS w L σ β v x) (h:isK v=true):RdK w L σ β v x:=by
 cases v<;>first|exact r|simp[isK,zC2]at h
def zH6 (fn:Fn) (first:Nat) (caps:List V):R:=
 match fn with
 | .func f=>if first=0/\caps.all isK=true then .ok (.fn f caps)else .fail
 |_=> .fail
theorem xO3 {pos:String} (fn:Fn) (first caps:Array Operand) (h:Sim c nt e σ a w L β):
  ROk (zH6 fn first.size (caps.toList.map (zD e))) σ (Yield P c ⟨dst,.makeFunc fn first caps,ty,pos,aft,g⟩ a w L σ β):=by
 unfold zH6
 split
 .rename_i f
  split
  .rename_i hc
   obtain⟨h0,hk⟩:=hc
   have hf:first= #[]:=(by grind)
   subst hf
   refine Yield.pure h (x:= .func (.func f) #[] (caps.toList.map a.eval).toArray) (by simp[execOp,Instr.makeFunc];grind) ⟨_,rfl, ?_⟩
   have: ∀l:List Operand,(l.map (zD e)).all isK=true->All2 (RdK w L σ β) (l.map (zD e)) (l.map a.eval):=by
    intro l
    induction l with
    |nil=>intro _;trivial
    |cons p l ih=>
     intro hl
     simp at hl
     exact⟨wf8 (h.eval p) hl.1,(by grind)⟩
   grind
  trivial
 trivial
def zelT (P:Program) (t:TypeId):Option (List V):=
 match P.underlying t with
 |some (.slice el)=>zb0 P el
 |_=>none
def zE0 (el:Option (Nat×Nat)) (zs:Option (List V)) (σ:St) (l m:V):R:=
 match el,zs,l,m with
 |some (s,by'),some z,.int .i64 n,.int .i64 k=> .needst (0<=n/\n<=k/\k.toNat*by'<=140737488355328) (.sl (.app σ.length) (List.replicate n.toNat z)) (σ++ [.app n.toNat s])
 |_,_,_,_=> .fail
theorem xA7 {z:Array Value} {s N:Nat} (hz:z.size=s) (hs:0<s) (k:Nat) (hk:k<N*s):((Array.range (N*s)).map (z[· %z.size]!))[k]? =some (z.toList[k%s]'(by simp_all[Cn])):=by
 grind
theorem yK6 {s ab:Nat} {z:List V} {n k:Int} (ak:elT P t=some (s,ab)) (hz:zelT P t=some z) (h0:0<=n) (hle:n<=k) (hb:k.toNat*ab<=140737488355328) (w:World) (L:Nat->Nat):
  ∃(el:TypeId) (cells:Array Value),(Instr.makeSlice t (.int .i64 n) (.int .i64 k)).run P w= .ok (.slice (some ⟨w.heap.size,0,none⟩) n.toNat k.toNat) (w.alloc (.cells cells el))/\cells.size=k.toNat*s/\0<s/\
   uni s (List.replicate n.toNat z)/\All2 (RdP w L) (List.replicate n.toNat z).flatten (cells.toList.take (n.toNat*s)):=by
 obtain⟨el,i,zz,hu,hi,ad,rfl,rfl,al,hs,an⟩:=ze0 ak
 unfold zelT at hz
 rw[hu]at hz
 obtain⟨i',a7,ae,aa,az,rfl⟩:=zG2 hz
 rw[hi]at ae;cases ae
 rw[ad]at aa;cases aa
 have hk:k.toNat<=140737488355328:=B3 (Nat.le_mul_of_pos_right _ an) hb
 have af:IntKind.i64.wrap n=n:=by grind[IntKind.wrap_i64]
 have ag:IntKind.i64.wrap k=k:=by grind[IntKind.wrap_i64]
 have ao:(i.bytes:Int)*k=((k.toNat*i.bytes:Nat):Int):=by
  grind
 have ah: ¬(281474976710656<(i.bytes:Int)*k):=om
 have q1: ¬k<0:=om
 have q2: ¬n<0:=om
 have q3: ¬k<n:=by omega
 let cells:Array Value:=(Array.range (k.toNat*i.size)).map (zz.cells[· %zz.cells.size]!)
 have a1:(Instr.makeSlice t (.int .i64 n) (.int .i64 k)).run P w= .ok (.slice (some ⟨w.heap.size,0,none⟩) n.toNat k.toNat) (w.alloc (.cells cells el)):=by
  by_cases ai:k.toNat*i.size=0
  .have: ∀f:Nat->Value,(Array.range 0).map f= #[]:=sM
   have aq:cells= #[]:=by grind
   rw[aq]
   simp[Instr.makeSlice,run_underlying hu,asInt,asIntOf,typeInfo,hi,af,ag,ah,q1,q2,q3,sizeOf,ai,newRow,this]
  .simp[Instr.makeSlice,run_underlying hu,asInt,asIntOf,typeInfo,hi,af,ag,ah,q1,q2,q3,sizeOf,ai,newRow,zeroValue,ad,cells]
 have ar:zz.cells.toList.length=i.size:=om
 have au:uni i.size (List.replicate n.toNat (zz.cells.toList.map zc5)):=fun r hr=>by
  grind
 have av:n.toNat<=k.toNat:=om
 have hmul:n.toNat*i.size<=k.toNat*i.size:=Ah _ av
 have hlen:(List.replicate n.toNat (zz.cells.toList.map zc5)).length=n.toNat:=sM
 have a6:All2 (RdP w L) (List.replicate n.toNat (zz.cells.toList.map zc5)).flatten (cells.toList.take (n.toNat*i.size)):=by
  refine All2.of ?_ fun j p x hp hx=> ?_
  .grind[yA]
  .have aw:j<n.toNat*i.size:=by
    grind
   have ax:j/i.size<n.toNat:=by rw[Bz hs];omega
   have aj:j%i.size<i.size:=Cn _ hs
   have ay:j=j/i.size*i.size+j%i.size:=by grind[Cz]
   rw[ay,yN _ _ au aj,List.getElem?_replicate,if_pos ax]at hp
   simp only[Ar,B6]at hp
   rw[Aw,if_pos aw,Aq]at hx
   have:=xA7 al hs j (show j<k.toNat*i.size by omega)
   simp only[cells]at hx
   rw[this]at hx
   simp only[Option.some.injEq]at hx
   rw[A0 (by rw[ar];exact aj)]at hp
   simp only[Bg,Option.some.injEq]at hp
   rw[<-hp,<-hx]
   exact(zw4 _ (by grind)).1
 grind
theorem xO5 {pos:String} (t:TypeId) (l m:Operand) (h:Sim c nt e σ a w L β):
  ROk (zE0 (elT P t) (zelT P t) σ (zD e l) (zD e m)) σ (Yield P c ⟨dst,.makeSlice t l m,ty,pos,aft,g⟩ a w L σ β):=by
 have hl:=h.eval l
 have hm:=h.eval m
 unfold zE0
 split
 .rename_i s ai z n k ag hz e1 e2
  rw[e1]at hl;rw[e2]at hm
  have e1:=yK hl;have e2:=yK hm
  rintro⟨h0,hle,hb⟩
  obtain⟨el,cells,ah,aj,hs,ad,ae⟩:=yK6 ag hz h0 hle hb w L
  have hlen:(List.replicate n.toNat z).length=n.toNat:=sM
  obtain⟨aa,ab,af⟩:=h.mem.appPush (s:=s) (cap:=k.toNat) (arr:=cells) (T:=el) hs ad ae om om (by grind)
  rw[hlen]at aa af ab
  refine⟨_,_,_,_,(by grind[execOp,Sem.run_bind,Result.andThen_ok,Sem.run_pure]),aa,ab,Ext.push _ _ h.mem.len _ _,af,n.toNat,s,sM,om,fun _=> ?_,ad⟩
  rw[<-h.mem.len];simp
 trivial
def zt9 (el:Option (Nat×Nat)) (zs:Option (List V)) (σ:St) (l m:V):R:=
 match el,zs,l,m with
 |some (s,by'),some z,.int .i64 n,.int .i64 k=> .needst (0<=n/\n<=k/\k.toNat*by'<=140737488355328) (.lsv σ.length s n.toNat 0 n.toNat) (σ++ [.lst (List.replicate n.toNat z) s])
 |_,_,_,_=> .fail
theorem zR9 {w':World} {L':Nat->Nat} {rows:List (List V)} {s cap:Nat} {a0:Option Addr} (hl:β.length=σ.length) (hcap:rows.length<=cap) (ha:0<cap-> ∃b,a0=some ⟨b,0,none⟩):
  RdS w' L' (σ++ [.lst rows s]) (β++ [.slice a0 rows.length cap]) (.lsv σ.length s rows.length 0 rows.length) (.slice a0 rows.length cap):=by
 refine⟨a0,cap,rfl,om,fun hp=> ?_,.inr ⟨rows,sM,om,fun _=>⟨a0,cap, ?_,rfl,om,fun hp=> ?_⟩⟩⟩
 all_goals grind
theorem xB9 {pos:String} (t:TypeId) (l m:Operand) (h:Sim c nt e σ a w L β):
  ROk (zt9 (elT P t) (zelT P t) σ (zD e l) (zD e m)) σ (Yield P c ⟨dst,.makeSlice t l m,ty,pos,aft,g⟩ a w L σ β):=by
 have hl:=h.eval l
 have hm:=h.eval m
 unfold zt9
 split
 .rename_i s aj z n k ag hz e1 e2
  rw[e1]at hl;rw[e2]at hm
  have e1:=yK hl;have e2:=yK hm
  rintro⟨h0,hle,hb⟩
  obtain⟨el,cells,ai,ak,hs,ah,ad⟩:=yK6 ag hz h0 hle hb w L
  have hlen:(List.replicate n.toNat z).length=n.toNat:=sM
  obtain⟨aa,ae,ab⟩:=h.mem.lstPush (s:=s) (cap:=k.toNat) (arr:=cells) (T:=el) hs ah (by rw[hlen];exact ad.imp fun _ _=>RdC.of_pure) om om
  have af:=zR9 (w':=w.alloc (.cells cells el)) (L':=L) (s:=s) (rows:=List.replicate n.toNat z) (cap:=k.toNat) (a0:=some ⟨w.heap.size,0,none⟩) h.mem.len om sM
  rw[hlen]at aa ab af
  exact⟨_,_,_,_,(by grind[execOp,Sem.run_bind,Result.andThen_ok,Sem.run_pure]),aa,ae,ab,af⟩
 trivial
theorem xN6 (h:Mem c w L σ β) {id s p:Nat} {rows r2:List (List V)} {ad:Option Addr} {lo n m cap:Nat} {x:Value} (hσ:σ[id]? =some (.lst rows s)) (hx:RdS w L σ β (.lsv id s n lo m) x) (hv:x= .slice ad m cap) (hn:rows.length=n) (ab:uni s r2)
  {news:List Value} (ae:All2 (RdC w L σ β) r2.flatten news) (af: ∀u∈news,u.oneCell'=true) (hp:p=lo) (hk:r2.length<=m) (ax:lo+m<=n) (aq:0<r2.length):
  ∃a0 w',ad=some a0/\(storeCells a0 news 0).run P w= .ok () w'/\Mem c w' L (σ.set id (.lst (rows.take p++r2++rows.drop (p+r2.length)) s)) β/\Le w L w' L/\Ext σ β (σ.set id (.lst (rows.take p++r2++rows.drop (p+r2.length)) s)) β:=by
 subst hp
 obtain⟨ay,ar,e0,az,_,hc⟩:=hx
 rw[hv]at e0;cases e0
 rcases hc with hd|⟨rows2,ag,a1,hb⟩
 .grind
 .rw[hσ]at ag;cases ag
  obtain⟨b0,c0,hβ,a6,a7,aa⟩:=hb hn.symm
  have al:p<c0:=om
  obtain⟨k0,rfl,rfl⟩:=aa al
  clear hb aa
  obtain⟨a2,au,e1,av,a8,an,_⟩:=h.objs id _ _ hσ hβ
  cases e1
  have ao:(rows.take p++r2++rows.drop (p+r2.length)).length=rows.length:=by grind
  have ah:p*s<=rows.length*s:=Ah _ om
  obtain⟨arr,T,fz,hh,hf,aw,ai,hle,aj⟩:=h.lstPut (off:=p*s) (vs:=r2.flatten) (rows2:=rows.take p++r2++rows.drop (p+r2.length)) hσ hβ om
   ae ah (fun r hr=>by
    rcases B5.1 hr with hr|hr
    .rcases B5.1 hr with hr|hr
     .grind
     .exact ab r hr
    grind) (ym9 an ab om) om om
  have ak:β.set id (.slice (some ⟨k0,0,none⟩) (rows.take p++r2++rows.drop (p+r2.length)).length c0)=β:=(by grind[yI])
  rw[ak]at ai aj
  have aA:=xZ P k0 (p*s) T fz news 0 arr w hh hf om af
  grind
def zt8 (sl:Option Nat) (zs:Option (List V)) (σ:St) (x:V):R:=
 match zs,x with
 |some z,.lsv id s n lo m=>(match σ[id]? with
  |some (.lst rows s')=> .needst (sl=some s/\s'=s/\rows.length=n/\lo+m<=n) (.tup []) (σ.set id (.lst (rows.take lo++List.replicate m z++rows.drop (lo+m)) s))
  |_=> .fail)
 |_,_=> .fail
theorem xB5 {pos:String} (t:TypeId) (x:Operand) (h:Sim c nt e σ a w L β):
  ROk (zt8 ((elT P t).map (·.1)) (zelT P t) σ (zD e x)) σ (Yield P c ⟨dst,.call ⟨.builtin .clear, #[x], #[t]⟩,ty,pos,aft,g⟩ a w L σ β):=by
 have hx:=h.eval x
 unfold zt8
 split
 .rename_i z id s n lo m hz h1
  rw[h1]at hx
  split
  .rename_i rows s' hσ
   rintro⟨a7,rfl,hn,ak⟩
   obtain⟨a8,al⟩: ∃b,elT P t=some (s',b):=by
    simp_all
   obtain⟨el,i,zz,hu,hi,an,rfl,rfl,ag,hs,aA⟩:=ze0 al
   unfold zelT at hz
   rw[hu]at hz
   obtain⟨i',aB,ah,ab,a1,rfl⟩:=zG2 hz
   rw[hi]at ah;cases ah
   rw[an]at ab;cases ab
   have ao:=hx
   obtain⟨ad,cap,hv,aC,a6,_⟩:=ao
   by_cases aq:m=0
   .subst aq
    have ai:σ.set id (.lst (rows.take lo++List.replicate 0 (zz.cells.toList.map zc5)++rows.drop (lo+0)) i.size)=σ:=(by simp_all[yI])
    rw[ai]
    refine⟨.tuple #[],w,L,β,.inl ?_,h.mem,Le.refl _ _,Ext.refl _ _,[],rfl,tV⟩
    cases ad<;>simp[execOp,resolve,invoke,builtin,Builtin.clear_,run_underlying hu,hv]
   .have aa:All2 (RdC w L σ β) (List.replicate m (zz.cells.toList.map zc5)).flatten (Builtin.zeroCells zz.cells m).toList:=by
     have ar:uni i.size (List.replicate m (zz.cells.toList.map zc5)):=fun r hr=>by
      grind
     refine All2.of ?_ fun j p x hp hx=> ?_
     .simp[size_zeroCells]
     .have au:j<m*i.size:=by
       have:=(A6.1 hp).1
       simp_all
      have av:j/i.size<m:=by simp_all[Bz]
      have aj:j%i.size<i.size:=Cn _ hs
      have aw:j=j/i.size*i.size+j%i.size:=by grind[Cz]
      rw[aw,yN _ _ ar aj,List.getElem?_replicate,if_pos av]at hp
      simp only[Ar,B6]at hp
      have:=xA7 ag hs j au
      rw[Aq]at hx
      unfold Builtin.zeroCells at hx
      rw[ag]at hx this
      rw[this]at hx
      simp only[Option.some.injEq]at hx
      rw[A0 (by simpa[ag]using aj)]at hp
      simp only[Bg,Option.some.injEq]at hp
      rw[<-hp,<-hx]
      exact RdC.of_pure (zw4 _ (by grind)).1
    have ax:(List.replicate m (zz.cells.toList.map zc5)).length=m:=sM
    obtain⟨a0,w',rfl,aD,ae,hle,af⟩:=xN6 (P:=P) h.mem (p:=lo) hσ hx hv hn (r2:=List.replicate m (zz.cells.toList.map zc5)) (fun r hr=>by
     grind) aa (fun u ay=>by
      obtain⟨k,hk⟩:=Av.1 ay
      have az:k<(List.replicate m (zz.cells.toList.map zc5)).flatten.length:=by rw[aa.length];grind
      obtain⟨q,hq,rq⟩:=aa.get k _ (A0 az)
      rw[hk]at hq;cases hq
      exact rq.oneCell) rfl om ak om
    rw[ax]at ae af
    obtain⟨m',rfl⟩: ∃m',m=m'+1:=(by simp;omega)
    refine⟨.tuple #[],w',L,β,.inl ?_,ae,hle,af,[],rfl,tV⟩
    simp_all[execOp,resolve,invoke,builtin,Builtin.clear_,run_underlying,zeroValue,typeInfo]
  trivial
 trivial
def za2 (es:Option Nat) (len:Nat) (σ:St) (parts:List (Nat×V)):R:=
 match es with
 |some s=>if zn4 0 parts=true/\parts.length=len then .needst ((∀p∈parts,(xE p.2).length=s)/\len*s<=16777216/\0<s) (.lsv σ.length s len 0 len) (σ++ [.lst (parts.map fun p=>xE p.2) s])else .fail
 |none=> .fail
theorem yk9 {pos:String} (t:TypeId) (len:Nat) (ps:Array (Nat×Operand)) (h:Sim c nt e σ a w L β):
  ROk (za2 ((elT P t).map (·.1)) len σ (ps.toList.map fun p=>(p.1,zD e p.2))) σ (Yield P c ⟨dst,.buildSlice t len ps,ty,pos,aft,g⟩ a w L σ β):=by
 unfold za2
 split
 .rename_i s ar
  split
  .rename_i af
   obtain⟨ho,hlen⟩:=af
   rintro⟨hp,au,hs⟩
   obtain⟨el,al⟩: ∃b,elT P t=some (s,b):=by
    simp_all
   obtain⟨el,i,z,hu,hi,hz,rfl,_,av,_,_⟩:=ze0 al
   have ab:=All2.of_parts h ps.toList
   have ag: ∀aa,Instr.fill (fun k=>some (k*i.size,i.size)) ((Array.range (len*i.size)).map (z.cells[· %z.cells.size]!)) (ps.map fun(k,x)=>(k,a.eval x)).toList=some aa->
     (Instr.buildSlice t len (ps.map fun(k,x)=>(k,a.eval x))).run P w= .ok (.slice (some ⟨w.heap.size,0,none⟩) len len) (w.alloc (.cells aa el)):=by
    intro aa hf
    by_cases h0:len*i.size=0
    .have aw:len=0:=by
      rcases Nat.mul_eq_zero.1 h0 with h|h
      all_goals omega
     simp_all[Array.eq_empty_of_size_eq_zero,Instr.buildSlice,run_underlying,sizeOf,typeInfo,newRow]
    grind[run_buildSlice]
   have ah:(ps.map fun(k,x)=>(k,a.eval x)).toList=ps.toList.map fun p=>(p.1,a.eval p.2):=sM
   obtain⟨aa,hf,ax,ai⟩:=yi2 (s:=i.size) _ _ 0 ((Array.range (len*i.size)).map (z.cells[· %z.cells.size]!)) [] ho hp ab (by grind) sM (by simp[All2])
   rw[<-ah]at hf
   have hr:=ag aa hf
   have an:((ps.toList.map fun p=>(p.1,zD e p.2)).map fun p=>xE p.2).length=len:=by grind
   have ao:uni i.size ((ps.toList.map fun p=>(p.1,zD e p.2)).map fun p=>xE p.2):=fun r hr=>by
    grind
   simp only[Bi]at ai
   have aq:aa.size=len*i.size:=by grind
   obtain⟨ad,aj,ae⟩:=h.mem.lstPush (s:=i.size) (cap:=len) (arr:=aa) (T:=el) hs ao (by grind[Ap]) om om
   have ak:=zR9 (w':=w.alloc (.cells aa el)) (L':=L) (s:=i.size) (rows:=(ps.toList.map fun p=>(p.1,zD e p.2)).map fun p=>xE p.2) (cap:=len) (a0:=some ⟨w.heap.size,0,none⟩) h.mem.len om sM
   rw[an]at ad ae ak
   exact⟨_,_,_,_,(by simp_all[execOp]),ad,aj,ae,ak⟩
  trivial
 trivial
def zy4 (ks kd:Option Kd) (σ:St) (x:V):R:=
 match kd,x with
 |some .bytes,.str s=>if ks=some .str then .st (.lsv σ.length 1 s.length 0 s.length) (σ++ [.lst (zO s) 1])else .fail
 |_,_=> .fail
theorem xB6 {pos:String} (t t':TypeId) (x:Operand) (h:Sim c nt e σ a w L β):
  ROk (zy4 (kdT P t) (kdT P t') σ (zD e x)) σ (Yield P c ⟨dst,.convert t t' x,ty,pos,aft,g⟩ a w L σ β):=by
 have hx:=h.eval x
 unfold zy4
 split
 .rename_i s hk h1
  rw[h1]at hx
  split
  .rename_i hs
   obtain⟨el,hu,he⟩:=zW1 hk
   have hr:=run_bytes_of_string (P:=P) w t t' el ⟨s.toArray⟩ (zL3 hs) hu he
   have hd:=h.mem.drew
   have ag:=grownCap_ge w (ByteArray.mk s.toArray).size 0 el
   generalize hcap:grownCap w (ByteArray.mk s.toArray).size 0 el=cap at hr ag
   have ah:s.length<=cap:=by simpa
   generalize ai:bytesRow ⟨s.toArray⟩ cap=arr at hr
   have aj:arr.size=cap:=by grind[bytesRow,zu5]
   have hl:(zO s).length=s.length:=by simp[zO]
   have ad:All2 (RdC w.drew L σ β) (zO s).flatten (arr.toList.take ((zO s).length*1)):=by
    have hb:arr.toList.take ((zO s).length*1)=byteCells ⟨s.toArray⟩:=by
     grind[bytesRow,byteCells]
    rw[hb]
    exact(zq0 s).imp fun _ _=>RdC.of_pure
   obtain⟨aa,ae,ab⟩:=hd.1.lstPushF (s:=1) (cap:=cap) (arr:=arr) (T:=el) (fz:=(arr.size,arr.size+1)) ⟨fun o ho q=>om,.inl rfl⟩ om (zQ2 s) ad om om
   have af:=zR9 (w':=w.drew.alloc (.cells arr el (arr.size,arr.size+1))) (L':=L) (s:=1) (rows:=zO s) (cap:=cap) (a0:=some ⟨w.drew.heap.size,0,none⟩) h.mem.len om sM
   rw[hl]at aa ab af
   refine⟨_,_,_,_,.inl ?_,aa,hd.2.trans ae,ab,af⟩
   simp only[execOp,za3 hx,Sem.run_bind,hr,Result.andThen_ok,Sem.run_pure]
   rfl
  trivial
 trivial
end
end Go.Vx
