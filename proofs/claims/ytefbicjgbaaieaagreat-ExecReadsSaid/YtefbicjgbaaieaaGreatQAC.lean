/-
  Operations over trees: literals, slices of slices and strings, conversions, fields, function values.
  No condition: a library text; nothing of the program is named.
-/
import Derived.Test.YtefbicjgbaaieaaGreatQAB
set_option maxHeartbeats 8000000
namespace Go.Vx
open Go
section
variable{P:Program}{c:Ctx}{nt:Nat}{e:Env}{σ:St}{a:Act}{w:World}{L:Nat->Nat}{β:List Value}{o:Oper}
variable{t:TypeId}{tx:TypeId}{ty:TypeId}{el:TypeId}{cap:Nat}{x:Value}{r2:List (List V)}{i:TypeInfo}{base:Option Addr}{n:Nat}
theorem zf0{s aa:Nat}(h:elT P t=some (s,aa)):∃el i z,P.underlying t=some (.slice el)/\P.info? el=some i/\i.zero=some z/\i.size=s/\i.bytes=aa/\z.cells.size=s/\0<s/\0<aa:=by
 unfold elT at h;split at h;.rename_i el hu;cases hi:P.info? el with |none=>simp[hi]at h|some i=>cases hz:i.zero with |none=>simp[hi,hz]at h|some z=>
    simp only[hi,hz,Aw]at h;split at h;.rename_i hc;simp at h;exact⟨el,i,z,hu,hi,hz,h.1,h.2,by rw[<-h.1];exact hc.1,by rw[<-h.1];exact hc.2.1,by rw[<-h.2];exact hc.2.2⟩
    .simp at h
 .simp at h
def za4(rows:List (List V))(lo m:Nat):List (List V):=((rows.drop lo).take m).map λr=>r.map dem
def xQ(rows:List (List V)):Bool:=rows.all λr=>r.all zh9
def xS3(rows:List (List V))(s' s n lo m:Nat):Prop:=s'=s/\rows.length=n/\lo+m<=n/\xQ ((rows.drop lo).take m)=true
def zF6(k:Nat)(σ:St):V->Option (List (List V)) |.sl _ rows=>if k=2then some rows else none|.str s=>if k=1then some (zM s)else none|.lsv id _ _ lo m=>if k=2then(match σ[id]?with|some (.lst rows _)=>some (za4 rows lo m)|_=>none)else none|_=>none
def zo7(σ:St):V->Prop |.lsv id s n lo m=>(match σ[id]?with|some (.lst rows s')=>xS3 rows s' s n lo m|_=>False)|_=>True
def zi3(el:Option (Nat×Nat))(k2:Nat)(σ:St)(x y:V):R:=match el,zF6 k2 σ y with |some (s,by'),some r2=>(match x with |.sl .full r1=>.needst (zo7 σ y/\(r1.length+r2.length)*by'<=140737488355328/\uni s r1/\uni s r2) (.sl (.app σ.length) (r1++r2)) (σ++[.app (r1.length+r2.length) s])|.sl (.app id) r1=>(match σ[id]?with |some (.app n s')=>.needst (zo7 σ y/\r1.length=n/\s'=s/\(r1.length+r2.length)*by'<=140737488355328/\uni s r2) (.sl (.app id) (r1++r2)) (σ.set id (.app (n+r2.length) s'))|_=>.fail)|.lsv id s1 n lo m=>(match σ[id]?with |some (.lst rows s')=>if lo+m+r2.length<=n then .needst (zo7 σ y/\s1=s/\s'=s/\rows.length=n/\uni s r2) (.lsv id s n lo (m+r2.length)) (σ.set id (.lst (rows.take (lo+m)++r2++rows.drop (lo+m+r2.length)) s))else .needst (zo7 σ y/\s1=s/\s'=s/\rows.length=n/\uni s r2/\lo=0/\m=n/\(n+r2.length)*by'<=140737488355328) (.lsv id s (n+r2.length) 0 (n+r2.length)) (σ.set id (.lst (rows++r2) s))|_=>.fail)|_=>.fail)|_,_=>.fail
def zJ2(k:Nat)(σ:St):V->Option (List (List V)) |.sl _ rows=>if k=2then some rows else none|.str s=>if k=1then some (zM s)else none|.lsv id _ _ lo m=>if k=2then(match σ[id]?with|some (.lst rows _)=>some ((rows.drop lo).take m)|_=>none)else none|_=>none
def zx0(σ:St):V->Prop |.lsv id s n lo m=>(match σ[id]?with|some (.lst rows s')=>s'=s/\rows.length=n/\lo+m<=n|_=>False)|_=>True
def zf1(el:Option (Nat×Nat))(k2:Nat)(σ:St)(x y:V):R:=match x with |.lsv id s1 n lo m=>(match el,zJ2 k2 σ y with |some (s,by'),some r2=>(match σ[id]?with |some (.lst rows s')=>if lo+m+r2.length<=n then .needst (zx0 σ y/\s1=s/\s'=s/\rows.length=n/\uni s r2) (.lsv id s n lo (m+r2.length)) (σ.set id (.lst (rows.take (lo+m)++r2++rows.drop (lo+m+r2.length)) s))else .needst (zx0 σ y/\s1=s/\s'=s/\rows.length=n/\uni s r2/\lo=0/\m=n/\(n+r2.length)*by'<=140737488355328) (.lsv id s (n+r2.length) 0 (n+r2.length)) (σ.set id (.lst (rows++r2) s))|_=>.fail)|_,_=>.fail)|x=>match el,zF6 k2 σ y with
 |some (s,by'),some r2=>(match x with |.sl .full r1=>.needst (zo7 σ y/\(r1.length+r2.length)*by'<=140737488355328/\uni s r1/\uni s r2/\(r2=[]->r1=[])) (.lsv σ.length s (r1.length+r2.length) 0 (r1.length+r2.length)) (σ++[.lst (r1++r2) s])|_=>.fail)|_,_=>.fail
theorem yj7{y:V}{s:Nat}(hm:Mem c w L σ β)(an:zo7 σ y)(hy:zF6 (lenT P tx) σ y=some r2)(r:RdS w L σ β y x)(hs:0<s)(hu:uni s r2):∃news,Src P s tx x r2.length news w/\All2 (RdP w L) r2.flatten news:=by
 unfold zF6 at hy;split at hy
 .rename_i gg rows;split at hy;.rename_i h2;cases hy;obtain⟨el,ab⟩:=zM9 h2;exact(zw7 r).src ab hs hu
  .cases hy
 .rename_i q;split at hy
  .rename_i h1;cases hy;have h1:=xb6 h1;have hx:=wW r;subst hx;by_cases hq:q=[]
   .subst hq;refine⟨[],⟨.inr h1,λ_=>rfl,?_,?_,by simp[zM],λ_ h=>by cases h⟩,tV⟩;.simp[Builtin.firstCells,zM]
    .simp[Builtin.firstCells,zM]
   .have az:s=1:=by obtain⟨b,rest,rfl⟩:=D7 hq;exact(hu [.int .u8 b.toNat] (by simp[zM])).symm
    subst az;have:=Src.ofString w h1 ⟨q.toArray⟩;rw[zm3]at this;have hl:(zM q).length=q.length:=by simp[zM]
    exact⟨_,by rw[hl];exact this,zq4 q⟩
  .cases hy
 .rename_i id s1 n lo m;split at hy
  .rename_i h2;obtain⟨el,ab⟩:=zM9 h2;split at hy
   .rename_i rows s' hσ;cases hy;simp only[zo7,hσ]at an;obtain⟨rfl,hn,aH,hp⟩:=an;obtain⟨ad,cap,hv,a1,ao,hc⟩:=r;have aq:(za4 rows lo m).length=m:=by simp[za4];omega
    by_cases h0:m=0
    .subst h0;have ar:za4 rows lo 0=[]:=by simp[za4]
     rw[ar,hv];cases ad with |none=>exact⟨[],Src.ofNil w ab cap,tV⟩|some ad=>exact⟨[],Src.ofSlice w ab ad 0 cap [] sm (λj u h=>by simp at h) (λ_ h=>by cases h),tV⟩
    .rcases hc with hd|⟨rows2,au,aI,hb⟩;.rw[hσ]at hd;cases hd
     .rw[hσ]at au;cases au;obtain⟨b0,c0,hβ,hcap,aJ,ah⟩:=hb hn.symm;clear hb ao;have a6:0<m:=Nat.pos_of_ne_zero h0;have av:lo<c0:=Nat.lt_of_sub_pos (D3 a6 (hcap▸a1.1));obtain⟨k0,rfl,rfl⟩:=ah av;clear ah;obtain⟨a2,aF,e1,aG,aK,aj,hok⟩:=hm.objs id _ _ hσ hβ;cases e1;obtain⟨b',arr,T,fz,e2,hh,_,aL,_,ai⟩:=hok (Nat.lt_of_le_of_lt (A2 _) av);cases e2;clear hok;have a7:s'=s:=by have ae:0<(za4 rows lo m).length:=om;have h1:=hu _ (A8 ae);simp only[za4,Eq,Ay,List.getElem_take,List.getElem_drop]at h1;rw[<-h1];exact(aj _ (A8 _)).symm
      subst a7;have a8:=zW aj;have ag:=zW hu;rw[aq]at ag;have aA:(lo+m)*s'<=rows.length*s':=An _ om;rw[Am]at aA;have aP:rows.length*s'<=arr.size:=by have:=ai.length;have aB:arr.toList.length=arr.size:=sm;rw[a8,Cd,aB]at this;omega
      have aw:∀k v y,(za4 rows lo m).flatten[k]?=some v->arr[lo*s'+k]?=some y->RdP w L v y:=by
       intro k v y hk aa;have ak:k<m*s':=by rw[<-ag];exact(A1.1 hk).1
       have hi:k/s'<m:=by rw[Cp hs];exact ak
       have hj:k%s'<s':=Cy _ hs;have aC:k=k/s'*s'+k%s':=by rw[Bz];exact(Dk k s').symm
       rw[aC,yK _ _ hu hj]at hk;simp only[za4,B0,Ae,if_pos hi,B5]at hk;have ae:lo+k/s'<rows.length:=om;rw[A0 ae]at hk;simp only[B9,Aw,B0,Ba]at hk;obtain⟨v0,ax,rfl⟩:=hk;have hf:rows.flatten[(lo+k/s')*s'+k%s']?=some v0:=by rw[yK _ _ aj hj,A0 ae];exact ax
       obtain⟨z,hz,rz⟩:=ai.get _ _ hf;have ay:(lo+k/s')*s'+k%s'=lo*s'+k:=by rw[Am];omega
       rw[ay,Ae,if_pos om,Ak,aa]at hz;cases hz;refine RdC.dem rz ?_;unfold xQ at hp;rw[Af]at hp;have aD:rows[lo+k/s']∈(rows.drop lo).take m:=by rw[Ax];exact⟨k/s',by rw[Ae,if_pos hi,B5,A0 ae]⟩
       have:=hp _ aD;rw[Af]at this;exact this _ (Ax.2 ⟨_,ax⟩)
      have al:((arr.toList.drop (lo*s')).take (m*s')).length=m*s':=by simp;omega
      rw[aq,hv];have af:All2 (RdP w L) (za4 rows lo m).flatten ((arr.toList.drop (lo*s')).take (m*s')):=by
       refine All2.of (by rw[ag,al]) λk v y hk aa=>aw k v y hk ?_;rw[Ae]at aa;split at aa;.rw[B5,Ak]at aa;exact aa
       .cases aa
      refine⟨_,Src.ofSlice w ab ⟨k0,lo*s',none⟩ m cap _ al (λj u hj=>?_) (λu aE=>?_),af⟩
      .rw[Ae]at hj;split at hj;.rw[B5,Ak]at hj;rw[wE];simp only[World.cell?,hh];simpa using hj
       .cases hj
      .obtain⟨k,hk⟩:=Ax.1 aE;have ak:k<(za4 rows lo m).flatten.length:=by rw[ag,<-al];exact(A1.1 hk).1
       obtain⟨z,hz,rz⟩:=af.get k _ (A0 ak);rw[hk]at hz;cases hz;exact rz.oneCell
   .cases hy
  .cases hy
 .cases hy
theorem xC7{y:V}{s:Nat}(hm:Mem c w L σ β)(an:zx0 σ y)(hy:zJ2 (lenT P tx) σ y=some r2)(r:RdS w L σ β y x)(hs:0<s)(hu:uni s r2):∃news,Src P s tx x r2.length news w/\All2 (RdC w L σ β) r2.flatten news:=by
 unfold zJ2 at hy;split at hy
 .rename_i gg rows;split at hy;.rename_i h2;cases hy;obtain⟨el,ab⟩:=zM9 h2;obtain⟨news,q1,q2⟩:=(zw7 r).src ab hs hu;exact⟨news,q1,q2.imp λ_ _=>RdC.of_pure⟩
  .cases hy
 .rename_i q;split at hy
  .rename_i h1;cases hy;have h1:=xb6 h1;have hx:=wW r;subst hx;by_cases hq:q=[]
   .subst hq;refine⟨[],⟨.inr h1,λ_=>rfl,?_,?_,by simp[zM],λ_ h=>by cases h⟩,tV⟩;.simp[Builtin.firstCells,zM]
    .simp[Builtin.firstCells,zM]
   .have ay:s=1:=by obtain⟨b,rest,rfl⟩:=D7 hq;exact(hu [.int .u8 b.toNat] (by simp[zM])).symm
    subst ay;have:=Src.ofString w h1 ⟨q.toArray⟩;rw[zm3]at this;have hl:(zM q).length=q.length:=by simp[zM]
    exact⟨_,by rw[hl];exact this,(zq4 q).imp λ_ _=>RdC.of_pure⟩
  .cases hy
 .rename_i id s1 n lo m;split at hy
  .rename_i h2;obtain⟨el,ab⟩:=zM9 h2;split at hy
   .rename_i rows s' hσ;cases hy;simp only[zx0,hσ]at an;obtain⟨rfl,hn,aF⟩:=an;obtain⟨ad,cap,hv,az,ao,hc⟩:=r;have aq:((rows.drop lo).take m).length=m:=by simp;omega
    by_cases h0:m=0;.subst h0;have ar:(rows.drop lo).take 0=[]:=sm;rw[ar,hv];cases ad with |none=>exact⟨[],Src.ofNil w ab cap,tV⟩|some ad=>exact⟨[],Src.ofSlice w ab ad 0 cap [] sm (λj u h=>by simp at h) (λ_ h=>by cases h),tV⟩
    .rcases hc with hd|⟨rows2,au,aG,hb⟩;.rw[hσ]at hd;cases hd
     .rw[hσ]at au;cases au;obtain⟨b0,c0,hβ,hcap,aH,ah⟩:=hb hn.symm;clear hb ao;have a1:0<m:=Nat.pos_of_ne_zero h0;have av:lo<c0:=Nat.lt_of_sub_pos (D3 a1 (hcap▸az.1));obtain⟨k0,rfl,rfl⟩:=ah av;clear ah;obtain⟨a2,aD,e1,aE,aI,aj,hok⟩:=hm.objs id _ _ hσ hβ;cases e1;obtain⟨b',arr,T,fz,e2,hh,_,aJ,_,ai⟩:=hok (Nat.lt_of_le_of_lt (A2 _) av);cases e2;clear hok;have a6:s'=s:=by have af:0<((rows.drop lo).take m).length:=om;have h1:=hu _ (A8 af);simp only[List.getElem_take,List.getElem_drop]at h1;rw[<-h1];exact(aj _ (A8 _)).symm
      subst a6;have a7:=zW aj;have ag:=zW hu;rw[aq]at ag;have a8:(lo+m)*s'<=rows.length*s':=An _ om;rw[Am]at a8;have aK:rows.length*s'<=arr.size:=by have:=ai.length;have aA:arr.toList.length=arr.size:=sm;rw[a7,Cd,aA]at this;omega
      have aw:∀k v y,((rows.drop lo).take m).flatten[k]?=some v->arr[lo*s'+k]?=some y->RdC w L σ β v y:=by
       intro k v y hk aa;have ak:k<m*s':=by rw[<-ag];exact(A1.1 hk).1
       have hi:k/s'<m:=by rw[Cp hs];exact ak
       have hj:k%s'<s':=Cy _ hs;have aB:k=k/s'*s'+k%s':=by rw[Bz];exact(Dk k s').symm
       rw[aB,yK _ _ hu hj]at hk;simp only[Ae,if_pos hi,B5]at hk;have af:lo+k/s'<rows.length:=om;rw[A0 af]at hk;simp only[Aw]at hk;have hf:rows.flatten[(lo+k/s')*s'+k%s']?=some v:=by rw[yK _ _ aj hj,A0 af];exact hk
       obtain⟨z,hz,rz⟩:=ai.get _ _ hf;have ax:(lo+k/s')*s'+k%s'=lo*s'+k:=by rw[Am];omega
       rw[ax,Ae,if_pos om,Ak,aa]at hz;cases hz;exact rz
      have al:((arr.toList.drop (lo*s')).take (m*s')).length=m*s':=by simp;omega
      rw[aq,hv];have ae:All2 (RdC w L σ β) ((rows.drop lo).take m).flatten ((arr.toList.drop (lo*s')).take (m*s')):=by
       refine All2.of (by rw[ag,al]) λk v y hk aa=>aw k v y hk ?_;rw[Ae]at aa;split at aa;.rw[B5,Ak]at aa;exact aa
       .cases aa
      refine⟨_,Src.ofSlice w ab ⟨k0,lo*s',none⟩ m cap _ al (λj u hj=>?_) (λu aC=>?_),ae⟩
      .rw[Ae]at hj;split at hj;.rw[B5,Ak]at hj;rw[wE];simp only[World.cell?,hh];simpa using hj
       .cases hj
      .obtain⟨k,hk⟩:=Ax.1 aC;have ak:k<((rows.drop lo).take m).flatten.length:=by rw[ag,<-al];exact(A1.1 hk).1
       obtain⟨z,hz,rz⟩:=ae.get k _ (A0 ak);rw[hk]at hz;cases hz;exact rz.oneCell
   .cases hy
  .cases hy
 .cases hy
theorem zh0(ht:P.underlying t=some (.slice el))(hi:P.info? el=some i)(hs:Src P i.size tx x 0 [] w)(hle:n<=cap):(Builtin.append_ #[t,tx] ty #[.slice base n cap,x]).run P w=.ok (.slice base n cap) w:=by have hc:=hs.cells;have hl:=hs.len w;rcases hs.kind with⟨e',hk⟩|hk<;>cases base<;>simp[Builtin.append_,run_underlying ht,run_underlying hk,sizeOf,typeInfo,hi,hl,hle,hc,storeCells]
theorem zl6{b o m:Nat}{news:List Value}{arr:Array Value}{T:TypeId}{fz:Nat×Nat}(ht:P.underlying t=some (.slice el))(hi:P.info? el=some i)(hs:Src P i.size tx x m news w)(hle:n+m<=cap)(hh:w.heap[b]?=some (.cells arr T fz))(hf:zs3 arr fz)(ab:o+n*i.size+news.length<=arr.size):(Builtin.append_ #[t,tx] ty #[.slice (some ⟨b,o,none⟩) n cap,x]).run P w=.ok (.slice (some ⟨b,o,none⟩) (n+m) cap) (yJ w b (.cells (xI arr (o+n*i.size) news) T fz)):=by have hc:=hs.cells;have hl:=hs.len w;have aa:=wD P b (o+n*i.size) T fz news 0 arr w hh hf om hs.one;rw[Cg]at aa;rcases hs.kind with⟨e',hk⟩|hk<;>simp[Builtin.append_,run_underlying ht,run_underlying hk,sizeOf,typeInfo,hi,hl,hle,hc,wE,aa]
theorem yq8{P:Program}{w:World}{L:Nat->Nat}{rows:List (List V)}{s:Nat}(ht:P.underlying t=some (.slice el))(hs:0<s)(hu:uni s rows)(r:RdP w L (.sl .ro rows) (.slice base rows.length cap)):∃aa,(Builtin.firstCells s rows.length (.slice base rows.length cap)).run P w.drew=.ok aa.toArray w.drew/\All2 (RdP w L) rows.flatten aa/\aa.length=rows.length*s:=by obtain⟨news,h1,h2⟩:=r.src ht hs hu;exact⟨news,h1.cellsD,h2,h1.newsLen⟩
theorem yj2{z:Value}(hu:P.underlying t=some (.slice el))(hi:P.info? el=some i)(hz:i.zero=some z)(ag:z.cells.size=i.size)(ah:0<i.bytes){k:Nat}{aa news:List Value}{y:Value}(hold:(Builtin.firstCells i.size n (.slice base n cap)).run P w.drew=.ok aa.toArray w.drew)(ae:aa.length=n*i.size)(ab:Src P i.size tx y k news w)(af:cap<n+k)(hbound:(n+k)*i.bytes<=140737488355328):∃(ad:Nat)(arr:Array Value),n+k<=ad/\ad*i.size<=arr.size/\arr.toList.take ((n+k)*i.size)=aa++news/\(Builtin.append_ #[t,tx] ty #[.slice base n cap,y]).run P w=.ok (.slice (some ⟨w.heap.size,0,none⟩) (n+k) ad) (w.drew.alloc (.cells arr el)):=by
 have hb:n+k<=140737488355328:=B3 (Nat.le_mul_of_pos_right _ ah) hbound;have hr:=run_append_grow_src (P:=P) w t tx ty el i z hu hi hz base n cap aa hold y k news ab af om (growslice_fits af hbound);have ai:=grownCap_ge w (n+k) cap el;refine⟨grownCap w (n+k) cap el,_,ai,?_,?_,hr⟩
 .have hm:grownCap w (n+k) cap el*i.size=(n+k)*i.size+(grownCap w (n+k) cap el-(n+k))*i.size:=by rw[<-Am];congr 1;omega
  simp only[Array.size_append,List.size_toArray,B2,size_zeroCells,ag,ae,ab.newsLen];rw[hm,Am];exact A3 _
 .rw[Array.toList_append,Cx (by simp only[B2,ae,ab.newsLen];rw[Am];exact A3 _)];rw[Av (by simp only[B2,ae,ab.newsLen];rw[Am];exact A3 _)]
theorem yJ8{rows:List (List V)}{s:Nat}{a0:Option Addr}(hu:P.underlying t=some (.slice el))(hok:ObOk w L σ β (.lst rows s) (.slice a0 rows.length cap)):∃aa,(Builtin.firstCells s rows.length (.slice a0 rows.length cap)).run P w.drew=.ok aa.toArray w.drew/\aa.length=rows.length*s/\All2 (RdC w L σ β) rows.flatten aa:=by
 obtain⟨a',ai,e,hcap,hs,aj,hx⟩:=hok;cases e;by_cases h0:0<cap
 .obtain⟨b,arr,T,fz,rfl,hh,_,ak,_,ab⟩:=hx h0;have al:rows.length*s<=cap*s:=An _ hcap;have hl:(arr.toList.take (rows.length*s)).length=rows.length*s:=by simp;omega
  have ad:=Src.ofSlice (P:=P) (size:=s) w hu ⟨b,0,none⟩ rows.length cap (arr.toList.take (rows.length*s)) hl (λj u hj=>by
   rw[Ae]at hj;split at hj;.rw[Ak]at hj;rw[wE];simp only[World.cell?,hh];simpa using hj
   .cases hj) (λu ae=>by
   obtain⟨k,hk⟩:=Ax.1 ae;have af:k<rows.flatten.length:=by rw[ab.length];exact(A1.1 hk).1
   obtain⟨z,hz,rz⟩:=ab.get k _ (A0 af);rw[hk]at hz;cases hz;exact rz.oneCell);exact⟨_,ad.cellsD,hl,ab⟩
 .have ag:cap=0:=om;subst ag;have ah:rows=[]:=B6 om;subst ah;cases a0 with |none=>exact⟨[],(Src.ofNil (P:=P) (size:=s) w hu 0).cellsD,sm,tV⟩|some a0=>exact⟨[],(Src.ofSlice (P:=P) (size:=s) w hu a0 0 0 [] sm (λj u h=>by simp at h) (λ_ h=>by cases h)).cellsD,sm,tV⟩
theorem yk0{rows:List (List V)}{s p:Nat}(h:∀r∈rows,r.length=s)(h2:∀r∈r2,r.length=s)(hp:p+r2.length<=rows.length):(rows.take p++r2++rows.drop (p+r2.length)).flatten=putCells rows.flatten (p*s) r2.flatten:=by
 have h1:∀q,q<=rows.length->(rows.take q).flatten=rows.flatten.take (q*s):=λq hq=>by
  have e:rows.flatten=(rows.take q).flatten++(rows.drop q).flatten:=by rw[<-C0,Bq]
  have hl:=zW (rows:=rows.take q) (s:=s) λr hr=>h r (Bk hr);have aa:(rows.take q).length=q:=by simp;omega
  rw[aa]at hl;rw[e,Cx (Cm hl.symm),Av (Cm hl)]
 have h3:∀q,q<=rows.length->(rows.drop q).flatten=rows.flatten.drop (q*s):=λq hq=>by
  have e:rows.flatten=(rows.take q).flatten++(rows.drop q).flatten:=by rw[<-C0,Bq]
  have hl:=zW (rows:=rows.take q) (s:=s) λr hr=>h r (Bk hr);have aa:(rows.take q).length=q:=by simp;omega
  rw[aa]at hl;rw[e,List.drop_append_of_le_length (Cm hl.symm),Bu (Cm hl)];rfl
 have ab:=zW h2;unfold putCells;rw[C0,C0,h1 p om,h3 _ hp,ab,Am]
theorem xk7{dst:Option Tmp}{pos:String}{aft:Array Edge}{g:Option (Nat×Bool)}(t tx:TypeId)(x y:Operand)(h:Sim c nt e σ a w L β):ROk (zi3 (elT P t) (lenT P tx) σ (zF e x) (zF e y)) σ (Yield P c ⟨dst,.call ⟨.builtin .append,#[x,y],#[t,tx]⟩,ty,pos,aft,g⟩ a w L σ β):=by
 have hx:=h.eval x;have hy:=h.eval y;unfold zi3;split
 .rename_i s bt r2 ba a6;obtain⟨el,i,z,hu,hi,hz,rfl,rfl,aL,hs,aP⟩:=zf0 ba;have an:∀{v w'},(Builtin.append_ #[t,tx] ty #[a.eval x,a.eval y]).run P w=.ok v w'->(execOp a.eval ⟨dst,.call ⟨.builtin .append,#[x,y],#[t,tx]⟩,ty,pos,aft,g⟩).run P w=.ok (.value v) w':=by intro v w' hr;simp[execOp,resolve,invoke,builtin,hr]
  have grow:∀{base:Option Addr}{n cap:Nat}{r1:List (List V)},zo7 σ (zF e y)->a.eval x=.slice base n cap->r1.length=n->RdP w L (.sl .ro r1) (.slice base n cap)->uni i.size r1->uni i.size r2->cap<n+r2.length->(n+r2.length)*i.bytes<=140737488355328->∃xs ai,n+r2.length<=ai/\All2 (RdP w L) (r1++r2).flatten xs/\∃arr:Array Value,ai*i.size<=arr.size/\(∀(k:Nat) v,xs[k]?=some v->arr[k]?=some v)/\(execOp a.eval ⟨dst,.call ⟨.builtin .append,#[x,y],#[t,tx]⟩,ty,pos,aft,g⟩).run P w=.ok (.value (.slice (some ⟨w.heap.size,0,none⟩) (n+r2.length) ai)) (w.drew.alloc (.cells arr el)):=by
   intro base n cap r1 ao hv hn ay ak af aQ hbound;subst hn;obtain⟨news,ab,ag⟩:=yj7 (P:=P) h.mem ao a6 hy hs af;obtain⟨av,hold,az,a8⟩:=yq8 hu hs ak ay;have hb:r1.length+r2.length<=140737488355328:=B3 (Nat.le_mul_of_pos_right _ aP) hbound;have hr:=run_append_grow_src (P:=P) w t tx ty el i z hu hi hz base r1.length cap av hold (a.eval y) r2.length news ab aQ om (growslice_fits aQ hbound);rw[<-hv]at hr;have aA:=grownCap_ge w (r1.length+r2.length) cap el;refine⟨av++news,grownCap w (r1.length+r2.length) cap el,aA,?_,_,?_,?_,an hr⟩;.rw[C0];exact az.append ag
   .have hm:grownCap w (r1.length+r2.length) cap el*i.size=(r1.length+r2.length)*i.size+(grownCap w (r1.length+r2.length) cap el-(r1.length+r2.length))*i.size:=by rw[<-Am];congr 1;omega
    simp only[Array.size_append,List.size_toArray,B2,size_zeroCells,aL,a8,ab.newsLen];rw[hm,Am];exact A3 _
   .intro k v hk;have bb:=(A1.1 hk).1;rw[Do (by simpa using bb)];simpa using hk
  split;·
   rename_i r1 h1;rw[h1]at hx;rintro⟨ao,hbound,ak,af⟩;have aH:RdP w L (.sl .full r1) (a.eval x):=hx;obtain⟨base,cap,hv,aI,bc⟩:=aH.len;have hcap:=bc rfl;subst hcap;by_cases h0:r2=[]
   .subst h0;obtain⟨news,ab,ag⟩:=yj7 (P:=P) h.mem ao a6 hy hs af;have aB:news=[]:=B6 (by rw[ab.newsLen];simp);subst aB;have hr:=zh0 (P:=P) (ty:=ty) hu hi ab aI (base:=base);rw[<-hv]at hr;have aa:=h.mem.own (s:=i.size) (n:=r1.length) (a:=base) hs;refine⟨_,w,L,_,.inl (an hr),by simpa using aa,Le.refl _ _,Ext.push _ _ h.mem.len _ _,?_⟩;rw[Bc];refine⟨RdP.weak aH,r1.length,i.size,?_,A3 _,λ_=>?_,ak⟩;.simp
    .rw[<-h.mem.len,hv];simp
   .have ar:0<r2.length:=Ec.2 h0;obtain⟨xs,ai,aA,ag,arr,a7,aJ,aC⟩:=grow ao hv rfl (by rw[<-hv];exact RdP.weak aH) ak af om hbound;have hd:=h.mem.drew;have hlen:(r1++r2).length=r1.length+r2.length:=sm;obtain⟨aa,hle,a1⟩:=hd.1.appPush (s:=i.size) (cap:=ai) (rows:=r1++r2) (T:=el) hs (zc5 ak af) (ag.imp λ_ _=>RdP.mono hd.2) om a7 aJ;rw[hlen]at aa a1;refine⟨_,_,_,_,.inl aC,aa,hd.2.trans ?_,Ext.push _ _ h.mem.len _ _,?_⟩;.rw[hlen]at hle;exact hle
    .refine⟨a1,r1.length+r2.length,i.size,sm,by rw[hlen];exact A3 _,λ_=>?_,zc5 ak af⟩;rw[<-h.mem.len];simp
  .rename_i id r1 h1;rw[h1]at hx;split
   .rename_i n s' hσ;rintro⟨ao,rfl,rfl,hbound,af⟩;obtain⟨ay,n',s2,aR,bq,hβ,ak⟩:=hx;rw[hσ]at aR;cases aR;have aD:=hβ rfl;obtain⟨base,cap,hv,aI,_⟩:=ay.len;by_cases h0:r2=[];.subst h0;obtain⟨news,ab,ag⟩:=yj7 (P:=P) h.mem ao a6 hy hs af;have aB:news=[]:=B6 (by rw[ab.newsLen];simp);subst aB;have hr:=zh0 (P:=P) (ty:=ty) hu hi ab aI (base:=base);rw[<-hv]at hr;have aw:σ.set id (.app (r1.length+([]:List (List V)).length) i.size)=σ:=yE _ _ _ (by simpa using hσ);rw[aw];refine⟨_,w,L,β,.inl (an hr),h.mem,Le.refl _ _,Ext.refl _ _,?_⟩;rw[Bc];exact⟨ay,r1.length,i.size,hσ,A3 _,hβ,ak⟩
    .have ar:0<r2.length:=Ec.2 h0;have hlen:(r1++r2).length=r1.length+r2.length:=sm;have aq:id<σ.length:=(A1.1 hσ).1;by_cases al:r1.length+r2.length<=cap
     .obtain⟨a',aF,e1,bd,aS,hok⟩:=h.mem.objs id _ _ hσ aD;rw[hv]at e1;cases e1;obtain⟨b,o',arr,T,fz,rfl,hh,hf,a7,hL⟩:=hok om;obtain⟨news,ab,ag⟩:=yj7 (P:=P) h.mem ao a6 hy hs af;rw[hv]at ay aD;obtain⟨br,T',bu,bf,bg,au,aa,hle,ah,a1⟩:=h.mem.appIn hσ aD rfl ay ak af ag ar al;have hr:=zl6 (P:=P) (ty:=ty) hu hi ab al bf bg au;rw[<-hv]at hr;refine⟨_,_,_,_,.inl (an hr),aa,hle,ah,a1,r1.length+r2.length,i.size,?_,by rw[hlen];exact A3 _,λ_=>?_,zc5 ak af⟩;.rw[Aj aq]
      .rw[Aj (by rw[h.mem.len];exact aq)]
     .obtain⟨xs,ai,aA,ag,arr,a7,aJ,aC⟩:=grow ao hv rfl (by rw[<-hv];exact ay) ak af om hbound;have hd:=h.mem.drew;obtain⟨aa,hle,ah,a1⟩:=hd.1.appNew (cap:=ai) (rows:=r1++r2) (arr:=arr) (T:=el) hσ aD hs (zc5 ak af) (ag.imp λ_ _=>RdP.mono hd.2) om om a7 aJ;rw[hlen]at aa ah a1 hle;refine⟨_,_,_,_,.inl aC,aa,hd.2.trans hle,ah,a1,r1.length+r2.length,i.size,?_,by rw[hlen];exact A3 _,λ_=>?_,zc5 ak af⟩;.rw[Aj aq]
      .rw[Aj (by rw[h.mem.len];exact aq)];rfl
   .trivial
  .rename_i id s1 n lo m h1;rw[h1]at hx;obtain⟨ad,cap,hv,aT,ar,hc⟩:=hx;split
   .rename_i rows s' hσ;have cur:rows.length=n->∃b c0,β[id]?=some (.slice b n c0)/\cap=c0-lo/\lo<=c0/\(lo<c0->∃k,b=some ⟨k,0,none⟩/\ad=some ⟨k,lo*s1,none⟩):=λhn=>by
     rcases hc with hd|⟨rows2,aU,bw,hb⟩;.rw[hσ]at hd;cases hd
     .rw[hσ]at aU;cases aU;exact hb hn.symm
    have aq:id<σ.length:=(A1.1 hσ).1;split
    .rename_i aV;rintro⟨ao,rfl,rfl,hn,af⟩;obtain⟨b0,c0,hβ,rfl,a8,aj⟩:=cur hn;obtain⟨a2,aF,e1,aW,aS,ax,hok⟩:=h.mem.objs id _ _ hσ hβ;cases e1;clear hok cur hc;obtain⟨news,ab,ag⟩:=yj7 (P:=P) h.mem ao a6 hy hs af;by_cases h0:r2=[];.subst h0;have aB:news=[]:=B6 (by rw[ab.newsLen];simp);subst aB;have hr:=zh0 (P:=P) (ty:=ty) hu hi ab aT.1 (base:=ad);rw[<-hv]at hr;have aw:σ.set id (.lst (rows.take (lo+m)++[]++rows.drop (lo+m+([]:List (List V)).length)) i.size)=σ:=yE _ _ _ (by simp[hσ]);rw[aw];refine⟨_,w,L,β,.inl (an hr),h.mem,Le.refl _ _,Ext.refl _ _,?_⟩;exact⟨ad,c0-lo,hv,aT,ar,.inr ⟨rows,hσ,Cm hn.symm,λ_=>⟨b0,c0,hβ,rfl,a8,aj⟩⟩⟩
     .have bx:0<r2.length:=Ec.2 h0;clear ar;have bh:lo<c0:=by clear aj;omega
      obtain⟨k0,rfl,rfl⟩:=aj bh;clear aj;have ae:(rows.take (lo+m)++r2++rows.drop (lo+m+r2.length)).length=rows.length:=by simp;omega
      have aX:(lo+m)*i.size<=rows.length*i.size:=An _ om;obtain⟨arr,T,fz,hh,hf,au,aa,hle,ah⟩:=h.mem.lstPut (off:=(lo+m)*i.size) (vs:=r2.flatten) (rows2:=rows.take (lo+m)++r2++rows.drop (lo+m+r2.length)) hσ hβ om (ag.imp λ_ _=>RdC.of_pure) aX (λr hr=>by
        rcases Aq.1 hr with hr|hr
        .rcases Aq.1 hr with hr|hr;.exact ax r (Bk hr)
         .exact af r hr
        .exact ax r (D4 hr)) (yk0 ax af om) (by rw[ae];exact A3 _) (by rw[ae];omega);have aw:β.set id (.slice (some ⟨k0,0,none⟩) (rows.take (lo+m)++r2++rows.drop (lo+m+r2.length)).length c0)=β:=yE _ _ _ (by rw[ae,hn];exact hβ);rw[aw]at aa ah;have hr:=zl6 (P:=P) (ty:=ty) (o:=lo*i.size) (n:=m) (cap:=c0-lo) hu hi ab om hh hf (by rw[Am]at au;exact au);rw[<-hv,<-Am]at hr;refine⟨_,_,_,_,.inl (an hr),aa,hle,ah,?_⟩;exact⟨_,c0-lo,rfl,om,λ_=>⟨_,_,rfl⟩,.inr ⟨_,Aj aq,by rw[ae];omega,λ_=>⟨_,c0,hβ,rfl,a8,λ_=>⟨k0,rfl,rfl⟩⟩⟩⟩
    .rename_i aV;rintro⟨ao,rfl,rfl,hn,af,rfl,rfl,hbound⟩;obtain⟨b0,c0,hβ,bj,a8,aj⟩:=cur hn;have aY:c0=cap:=by rw[bj,Nat.sub_zero]
     subst aY;have aZ:=h.mem.objs id _ _ hσ hβ;obtain⟨a2,aF,e1,aW,aS,ax,hok⟩:=aZ;cases e1;clear hok cur hc ar;obtain⟨news,ab,ag⟩:=yj7 (P:=P) h.mem ao a6 hy hs af;have ae:(rows++r2).length=rows.length+r2.length:=sm;by_cases al:rows.length+r2.length<=c0
     .have bk:0<c0:=by clear aj;rw[Ab]at aV;omega
      obtain⟨k0,rfl,rfl⟩:=aj bk;clear aj;obtain⟨arr,T,fz,hh,hf,au,aa,hle,ah⟩:=h.mem.lstPut (off:=rows.length*i.size) (vs:=r2.flatten) (rows2:=rows++r2) hσ hβ om (ag.imp λ_ _=>RdC.of_pure) (A3 _) (zc5 ax af) (by unfold putCells;rw[C0,Av (by rw[zW ax];exact A3 _),Bu (by rw[zW ax];omega),Bc]) (by rw[ae];omega) (by rw[ae];exact al);rw[Cf]at hv;have hr:=zl6 (P:=P) (ty:=ty) (o:=0) (n:=rows.length) (cap:=c0) hu hi ab al hh hf (by rw[Ab];exact au);rw[<-hv,Ab]at hr;rw[ae]at aa ah;refine⟨_,_,_,_,.inl (an hr),aa,hle,ah,?_⟩;exact⟨_,c0,rfl,⟨al,om⟩,λ_=>⟨_,_,rfl⟩,.inr ⟨_,Aj aq,by rw[ae];exact A3 _,λ_=>⟨_,c0,Aj (by rw[h.mem.len];exact aq),rfl,A2 _,λ_=>⟨k0,rfl,by rw[Cf]⟩⟩⟩⟩
     .obtain⟨av,hold,aG,az⟩:=yJ8 (P:=P) hu (h.mem.objs id _ _ hσ hβ);have bm:ad=b0∨c0=0:=by
       by_cases h0:0<c0;.obtain⟨k0,rfl,rfl⟩:=aj h0;exact .inl (by rw[Cf])
       .exact .inr (Nat.eq_zero_of_not_pos h0)
      clear aj;have aK:(Builtin.firstCells i.size rows.length (.slice ad rows.length c0)).run P w.drew=.ok av.toArray w.drew:=by
       rcases bm with rfl|rfl;.exact hold
       .have bn:rows=[]:=B6 om;subst bn;have bo:av=[]:=B6 (by rw[aG];simp);subst bo;cases ad with |none=>exact(Src.ofNil (P:=P) (size:=i.size) w hu 0).cellsD|some a0=>exact(Src.ofSlice (P:=P) (size:=i.size) w hu a0 0 0 [] sm (λj u h=>by simp at h) (λ_ h=>by cases h)).cellsD
      obtain⟨ai,arr,aA,a7,bp,hr⟩:=yj2 (P:=P) (w:=w) (tx:=tx) (ty:=ty) hu hi hz aL aP aK aG ab om hbound;rw[<-hv]at hr;have hd:=h.mem.drew;have aE:All2 (RdC w.drew L σ β) (rows++r2).flatten (arr.toList.take ((rows++r2).length*i.size)):=by rw[ae,bp,C0];exact(az.imp λ_ _=>RdC.mono hd.2 (Ext.refl _ _)).append (ag.imp λ_ _ q=>RdC.of_pure (q.mono hd.2))
      obtain⟨aa,hle,ah⟩:=hd.1.lstRe (rows2:=rows++r2) (cap:=ai) (T:=el) hσ hβ hs (zc5 ax af) aE om om a7;rw[ae]at aa ah;refine⟨_,_,_,_,.inl (an hr),aa,hd.2.trans hle,ah,?_⟩;exact⟨_,ai,rfl,⟨aA,om⟩,λ_=>⟨_,_,rfl⟩,.inr ⟨_,Aj aq,by rw[ae];exact A3 _,λ_=>⟨_,ai,Aj (by rw[h.mem.len];exact aq),rfl,A2 _,λ_=>⟨_,rfl,by rw[Cf];rfl⟩⟩⟩⟩
   .trivial
  .trivial
 .trivial
theorem yT8{dst:Option Tmp}{pos:String}{aft:Array Edge}{g:Option (Nat×Bool)}(t tx:TypeId)(x y:Operand)(h:Sim c nt e σ a w L β):ROk (zf1 (elT P t) (lenT P tx) σ (zF e x) (zF e y)) σ (Yield P c ⟨dst,.call ⟨.builtin .append,#[x,y],#[t,tx]⟩,ty,pos,aft,g⟩ a w L σ β):=by
 have hx:=h.eval x;have hy:=h.eval y;unfold zf1;split
 .rename_i id s1 n lo m h1;split
  .rename_i s aT r2 a7 a1;obtain⟨el,i,z,hu,hi,hz,rfl,rfl,a8,hs,aA⟩:=zf0 a7;have ah:∀{v w'},(Builtin.append_ #[t,tx] ty #[a.eval x,a.eval y]).run P w=.ok v w'->(execOp a.eval ⟨dst,.call ⟨.builtin .append,#[x,y],#[t,tx]⟩,ty,pos,aft,g⟩).run P w=.ok (.value v) w':=by intro v w' hr;simp[execOp,resolve,invoke,builtin,hr]
   rw[h1]at hx;obtain⟨ad,cap,hv,aG,ar,hc⟩:=hx;split
   .rename_i rows s' hσ;have cur:rows.length=n->∃b c0,β[id]?=some (.slice b n c0)/\cap=c0-lo/\lo<=c0/\(lo<c0->∃k,b=some ⟨k,0,none⟩/\ad=some ⟨k,lo*s1,none⟩):=λhn=>by
     rcases hc with hd|⟨rows2,aH,bg,hb⟩;.rw[hσ]at hd;cases hd
     .rw[hσ]at aH;cases aH;exact hb hn.symm
    have av:id<σ.length:=(A1.1 hσ).1;split
    .rename_i aI;rintro⟨aw,rfl,rfl,hn,aj⟩;obtain⟨b0,c0,hβ,rfl,ax,af⟩:=cur hn;obtain⟨a2,aJ,e1,aK,aU,an,hok⟩:=h.mem.objs id _ _ hσ hβ;cases e1;clear hok cur hc;obtain⟨news,ag,ak⟩:=xC7 (P:=P) h.mem aw a1 hy hs aj;by_cases h0:r2=[];.subst h0;have aB:news=[]:=B6 (by rw[ag.newsLen];simp);subst aB;have hr:=zh0 (P:=P) (ty:=ty) hu hi ag aG.1 (base:=ad);rw[<-hv]at hr;have ay:σ.set id (.lst (rows.take (lo+m)++[]++rows.drop (lo+m+([]:List (List V)).length)) i.size)=σ:=yE _ _ _ (by simp[hσ]);rw[ay];refine⟨_,w,L,β,.inl (ah hr),h.mem,Le.refl _ _,Ext.refl _ _,?_⟩;exact⟨ad,c0-lo,hv,aG,ar,.inr ⟨rows,hσ,Cm hn.symm,λ_=>⟨b0,c0,hβ,rfl,ax,af⟩⟩⟩
     .have bh:0<r2.length:=Ec.2 h0;clear ar;have aV:lo<c0:=by clear af;omega
      obtain⟨k0,rfl,rfl⟩:=af aV;clear af;have aa:(rows.take (lo+m)++r2++rows.drop (lo+m+r2.length)).length=rows.length:=by simp;omega
      have aL:(lo+m)*i.size<=rows.length*i.size:=An _ om;obtain⟨arr,T,fz,hh,hf,au,ab,hle,ae⟩:=h.mem.lstPut (off:=(lo+m)*i.size) (vs:=r2.flatten) (rows2:=rows.take (lo+m)++r2++rows.drop (lo+m+r2.length)) hσ hβ om ak aL (λr hr=>by
        rcases Aq.1 hr with hr|hr
        .rcases Aq.1 hr with hr|hr;.exact an r (Bk hr)
         .exact aj r hr
        .exact an r (D4 hr)) (yk0 an aj om) (by rw[aa];exact A3 _) (by rw[aa];omega);have ay:β.set id (.slice (some ⟨k0,0,none⟩) (rows.take (lo+m)++r2++rows.drop (lo+m+r2.length)).length c0)=β:=yE _ _ _ (by rw[aa,hn];exact hβ);rw[ay]at ab ae;have hr:=zl6 (P:=P) (ty:=ty) (o:=lo*i.size) (n:=m) (cap:=c0-lo) hu hi ag om hh hf (by rw[Am]at au;exact au);rw[<-hv,<-Am]at hr;refine⟨_,_,_,_,.inl (ah hr),ab,hle,ae,?_⟩;exact⟨_,c0-lo,rfl,om,λ_=>⟨_,_,rfl⟩,.inr ⟨_,Aj av,by rw[aa];omega,λ_=>⟨_,c0,hβ,rfl,ax,λ_=>⟨k0,rfl,rfl⟩⟩⟩⟩
    .rename_i aI;rintro⟨aw,rfl,rfl,hn,aj,rfl,rfl,hbound⟩;obtain⟨b0,c0,hβ,aW,ax,af⟩:=cur hn;have aP:c0=cap:=by rw[aW,Nat.sub_zero]
     subst aP;have aQ:=h.mem.objs id _ _ hσ hβ;obtain⟨a2,aJ,e1,aK,aU,an,hok⟩:=aQ;cases e1;clear hok cur hc ar;obtain⟨news,ag,ak⟩:=xC7 (P:=P) h.mem aw a1 hy hs aj;have aa:(rows++r2).length=rows.length+r2.length:=sm;by_cases ao:rows.length+r2.length<=c0
     .have aX:0<c0:=by clear af;rw[Ab]at aI;omega
      obtain⟨k0,rfl,rfl⟩:=af aX;clear af;obtain⟨arr,T,fz,hh,hf,au,ab,hle,ae⟩:=h.mem.lstPut (off:=rows.length*i.size) (vs:=r2.flatten) (rows2:=rows++r2) hσ hβ om ak (A3 _) (zc5 an aj) (by unfold putCells;rw[C0,Av (by rw[zW an];exact A3 _),Bu (by rw[zW an];omega),Bc]) (by rw[aa];omega) (by rw[aa];exact ao);rw[Cf]at hv;have hr:=zl6 (P:=P) (ty:=ty) (o:=0) (n:=rows.length) (cap:=c0) hu hi ag ao hh hf (by rw[Ab];exact au);rw[<-hv,Ab]at hr;rw[aa]at ab ae;refine⟨_,_,_,_,.inl (ah hr),ab,hle,ae,?_⟩;exact⟨_,c0,rfl,⟨ao,om⟩,λ_=>⟨_,_,rfl⟩,.inr ⟨_,Aj av,by rw[aa];exact A3 _,λ_=>⟨_,c0,Aj (by rw[h.mem.len];exact av),rfl,A2 _,λ_=>⟨k0,rfl,by rw[Cf]⟩⟩⟩⟩
     .obtain⟨az,hold,a6,aq⟩:=yJ8 (P:=P) hu (h.mem.objs id _ _ hσ hβ);have aY:ad=b0∨c0=0:=by
       by_cases h0:0<c0;.obtain⟨k0,rfl,rfl⟩:=af h0;exact .inl (by rw[Cf])
       .exact .inr (Nat.eq_zero_of_not_pos h0)
      clear af;have aC:(Builtin.firstCells i.size rows.length (.slice ad rows.length c0)).run P w.drew=.ok az.toArray w.drew:=by
       rcases aY with rfl|rfl;.exact hold
       .have aZ:rows=[]:=B6 om;subst aZ;have ba:az=[]:=B6 (by rw[a6];simp);subst ba;cases ad with |none=>exact(Src.ofNil (P:=P) (size:=i.size) w hu 0).cellsD|some a0=>exact(Src.ofSlice (P:=P) (size:=i.size) w hu a0 0 0 [] sm (λj u h=>by simp at h) (λ_ h=>by cases h)).cellsD
      obtain⟨ai,arr,aD,aE,aF,hr⟩:=yj2 (P:=P) (w:=w) (tx:=tx) (ty:=ty) hu hi hz a8 aA aC a6 ag om hbound;rw[<-hv]at hr;have hd:=h.mem.drew;have al:All2 (RdC w.drew L σ β) (rows++r2).flatten (arr.toList.take ((rows++r2).length*i.size)):=by rw[aa,aF,C0];exact(aq.imp λ_ _=>RdC.mono hd.2 (Ext.refl _ _)).append (ak.imp λ_ _=>RdC.mono hd.2 (Ext.refl _ _))
      obtain⟨ab,hle,ae⟩:=hd.1.lstRe (rows2:=rows++r2) (cap:=ai) (T:=el) hσ hβ hs (zc5 an aj) al om om aE;rw[aa]at ab ae;refine⟨_,_,_,_,.inl (ah hr),ab,hd.2.trans hle,ae,?_⟩;exact⟨_,ai,rfl,⟨aD,om⟩,λ_=>⟨_,_,rfl⟩,.inr ⟨_,Aj av,by rw[aa];exact A3 _,λ_=>⟨_,ai,Aj (by rw[h.mem.len];exact av),rfl,A2 _,λ_=>⟨_,rfl,by rw[Cf];rfl⟩⟩⟩⟩
   .trivial
  .trivial
 split
 .rename_i s aT r2 a7 a1;obtain⟨el,i,z,hu,hi,hz,rfl,rfl,a8,hs,aA⟩:=zf0 a7;have ah:∀{v w'},(Builtin.append_ #[t,tx] ty #[a.eval x,a.eval y]).run P w=.ok v w'->(execOp a.eval ⟨dst,.call ⟨.builtin .append,#[x,y],#[t,tx]⟩,ty,pos,aft,g⟩).run P w=.ok (.value v) w':=by intro v w' hr;simp[execOp,resolve,invoke,builtin,hr]
  split
  .rename_i r1 h1;rw[h1]at hx;rintro⟨aw,hbound,aR,aj,bb⟩;have aS:RdP w L (.sl .full r1) (a.eval x):=hx;obtain⟨base,cap,hv,bc,bd⟩:=aS.len;have hcap:=bd rfl;subst hcap;obtain⟨news,ag,ak⟩:=yj7 (P:=P) h.mem aw a1 hy hs aj;by_cases h0:r2=[];.have bf:=bb h0;subst h0 bf;have aB:news=[]:=B6 (by rw[ag.newsLen];simp);subst aB;have hr:=zh0 (P:=P) (ty:=ty) hu hi ag bc (base:=base);rw[<-hv]at hr;have ab:=h.mem.lstNil (s:=i.size) (a:=base) hs;refine⟨_,w,L,_,.inl (ah hr),by simpa using ab,Le.refl _ _,Ext.push _ _ h.mem.len _ _,?_⟩;refine⟨base,0,hv,⟨A3 _,A3 _⟩,λq=>by simp at q,.inr ⟨[],sm,sm,λ_=>⟨base,0,?_,rfl,A3 _,λq=>om⟩⟩⟩;rw[<-h.mem.len];simp
   .have ar:0<r2.length:=Ec.2 h0;obtain⟨az,hold,aq,ax⟩:=yq8 hu hs aR (show RdP w L (.sl .ro r1) (.slice base r1.length r1.length)by rw[<-hv];exact RdP.weak aS);obtain⟨ai,arr,aD,aE,aF,hr⟩:=yj2 (P:=P) (w:=w) (tx:=tx) (ty:=ty) hu hi hz a8 aA hold ax ag om hbound;rw[<-hv]at hr;have hd:=h.mem.drew;have aa:(r1++r2).length=r1.length+r2.length:=sm;have al:All2 (RdC w.drew L σ β) (r1++r2).flatten (arr.toList.take ((r1++r2).length*i.size)):=by rw[aa,aF,C0];exact(aq.imp λ_ _ q=>RdC.of_pure (q.mono hd.2)).append (ak.imp λ_ _ q=>RdC.of_pure (q.mono hd.2))
    obtain⟨ab,hle,ae⟩:=hd.1.lstPush (cap:=ai) (T:=el) hs (zc5 aR aj) al om aE;rw[aa]at ab ae;refine⟨_,_,_,_,.inl (ah hr),ab,hd.2.trans hle,ae,?_⟩;refine⟨_,ai,rfl,⟨aD,om⟩,λ_=>⟨_,_,rfl⟩,.inr ⟨r1++r2,sm,by rw[aa];exact A3 _,λ_=>⟨_,ai,?_,rfl,A2 _,λ_=>⟨_,rfl,by rw[Cf]⟩⟩⟩⟩;rw[<-h.mem.len];simp
  .trivial
 .trivial
end
section
variable{P:Program}{c:Ctx}{nt:Nat}{e:Env}{σ:St}{a:Act}{w:World}{L:Nat->Nat}{β:List Value}{o:Oper}
variable{dst:Option Tmp}{ty:TypeId}{aft:Array Edge}{g:Option (Nat×Bool)}{n:Nat}{cap:Nat}
theorem zQ9(arr:Array Value)(k:Nat):∀(vs:List Value)(j:Nat)(cur:Array Value),(vs.zipIdx j).foldl (λcs(p:Value×Nat)=>cs.setIfInBounds (k+p.2) p.1) cur=xI cur (k+j) vs
 |[],_,_=>rfl|v::vs,j,cur=>by rw[List.zipIdx_cons,Bf,zQ9 arr k vs (j+1)];rfl
theorem zK9{pl:Nat->Option (Nat×Nat)}{arr:Array Value}{i off s:Nat}{v:Value}{rest:List (Nat×Value)}(hp:pl i=some (off,s))(hs:v.cells.size=s)(hle:off+s<=arr.size):Instr.fill pl arr ((i,v)::rest)=Instr.fill pl (xI arr off v.cells.toList) rest:=by
 rw[Instr.fill];simp only[hp];have h1:(v.cells.size≠s||decide (off+v.cells.size>arr.size))=false:=by simp[hs];exact hle
 rw[if_neg (by simp[hs];omega)];congr 1;rw[<-Array.foldl_toList,Array.toList_zipIdx];exact zQ9 arr off v.cells.toList 0 arr
def zo0:Nat->List (Nat×V)->Bool |_,[]=>true|k,(i,v)::r=>i==k&&wO v&&zo0 (k+1) r
def zN3 (v:V):Bool:=(xH v).all zh9
def zG6 (v:V):List V:=(xH v).map dem
def zb5(es:Option Nat)(len:Nat)(parts:List (Nat×V)):R:=match es with |some s=>if zo0 0 parts=true/\parts.length=len then .need ((∀p∈parts,zN3 p.2=true/\(xH p.2).length=s)/\len*s<=16777216/\0<s) (.sl .full (parts.map λp=>zG6 p.2))else .fail|none=>.fail
theorem All2.map_left{α β γ:Type}{R:γ->β->Prop}{f:α->γ}:∀{l:List α}{m:List β},All2 (λx y=>R (f x) y) l m->All2 R (l.map f) m |[],[],_=>trivial|_::_,_::_,h=>⟨h.1,All2.map_left h.2⟩|[],_::_,h=>h.elim|_::_,[],h=>h.elim
theorem xI5{v:V}{x:Value}(r:All2 (RdC w L σ β) (xH v) x.cells.toList)(hp:zN3 v=true):All2 (RdP w L) (zG6 v) x.cells.toList:=by unfold zN3 at hp;unfold zG6;refine All2.map_left ?_;revert r hp;generalize xH v=cs;generalize x.cells.toList=xs;intro r hp;induction cs generalizing xs with
 |nil=>cases xs with |nil=>trivial|cons y ys=>exact r.elim
 |cons p cs ih=>cases xs with |nil=>exact r.elim|cons y ys=>simp at hp;exact⟨RdC.dem r.1 hp.1,ih _ r.2 (by simpa using hp.2)⟩
theorem yq6{s:Nat}:∀(parts:List (Nat×V))(ab:List (Nat×Value))(k:Nat)(arr:Array Value)(done:List V),zo0 k parts=true->(∀p∈parts,zN3 p.2=true/\(xH p.2).length=s)->All2 (λp q=>p.1=q.1/\RdS w L σ β p.2 q.2) parts ab->arr.size=(k+parts.length)*s->done.length=k*s->All2 (RdP w L) done (arr.toList.take (k*s))->∃aa,Instr.fill (λi=>some (i*s,s)) arr ab=some aa/\aa.size=arr.size/\All2 (RdP w L) (done++(parts.map λp=>zG6 p.2).flatten) aa.toList
 |[],[],k,arr,done,_,_,_,af,hd,ad=>by refine⟨arr,rfl,rfl,?_⟩;simp at af;rw[Av (by simp;omega)]at ad;simpa using ad|(i,v)::parts,(i',x)::ab,k,arr,done,ho,hp,⟨⟨hi,hr⟩,ah⟩,af,hd,ad=>by
  simp only[zo0,A6,beq_iff_eq]at ho;obtain⟨⟨rfl,ai⟩,ho⟩:=ho;have ag:=hp (i,v) sm;simp only at hi ag;subst hi;have ae:=zp9 hr ai;have hlen:=ae.length;simp only[C2]at hlen;have aj:x.cells.size=s:=by rw[<-hlen];exact ag.2
  simp only[Ah]at af;have hm:(i+(parts.length+1))*s=i*s+s+parts.length*s:=by rw[Am,Am,Bl];omega
  have an:(i+1)*s=i*s+s:=by rw[Am,Bl]
  rw[zK9 (s:=s) rfl aj om];have ak:=xI5 ae ag.1;have ao:(zG6 v).length=s:=by simp[zG6,ag.2]
  obtain⟨aa,h1,h2,h3⟩:=yq6 parts ab (i+1) (xI arr (i*s) x.cells.toList) (done++zG6 v) ho (λp aq=>hp p (by simp[aq])) ah (by rw[xJ,af];congr 1;omega) (by simp[hd,ao,an]) (by
   have al:i*s+x.cells.toList.length<=arr.size:=by simp;omega
   have e1:(xI arr (i*s) x.cells.toList).toList.take ((i+1)*s)=arr.toList.take (i*s)++x.cells.toList:=by
    apply Bx;intro j;rw[Ae];have ar:(List.take (i*s) arr.toList).length=i*s:=by simp;omega
    by_cases hj:j<(i+1)*s
    .rw[if_pos hj,Ak,zg4 _ _ _ _ al];simp only[C2];by_cases au:j<i*s;.rw[if_neg om,Aa om,Ae,if_pos au,Ak]
     .rw[if_pos om,Ai om,ar]
    .rw[if_neg hj,Bd (by simp[aj];omega)]
   rw[e1];exact ad.append ak);refine⟨aa,h1,by rw[h2,xJ],?_⟩;rw[Al,Ce,<-Bp];exact h3|[],_::_,_,_,_,_,_,h,_,_,_=>h.elim|_::_,[],_,_,_,_,_,h,_,_,_=>h.elim
theorem yf2{s:Nat}:∀(parts:List (Nat×V))(ab:List (Nat×Value))(k:Nat)(arr:Array Value)(done:List V),zo0 k parts=true->(∀p∈parts,(xH p.2).length=s)->All2 (λp q=>p.1=q.1/\RdS w L σ β p.2 q.2) parts ab->arr.size=(k+parts.length)*s->done.length=k*s->All2 (RdC w L σ β) done (arr.toList.take (k*s))->∃aa,Instr.fill (λi=>some (i*s,s)) arr ab=some aa/\aa.size=arr.size/\All2 (RdC w L σ β) (done++(parts.map λp=>xH p.2).flatten) aa.toList
 |[],[],k,arr,done,_,_,_,af,hd,ad=>by refine⟨arr,rfl,rfl,?_⟩;simp at af;rw[Av (by simp;omega)]at ad;simpa using ad|(i,v)::parts,(i',x)::ab,k,arr,done,ho,hp,⟨⟨hi,hr⟩,ag⟩,af,hd,ad=>by
  simp only[zo0,A6,beq_iff_eq]at ho;obtain⟨⟨rfl,ai⟩,ho⟩:=ho;have ah:=hp (i,v) sm;simp only at hi ah;subst hi;have ae:=zp9 hr ai;have hlen:=ae.length;simp only[C2]at hlen;have aj:x.cells.size=s:=by rw[<-hlen];exact ah
  simp only[Ah]at af;have hm:(i+(parts.length+1))*s=i*s+s+parts.length*s:=by rw[Am,Am,Bl];omega
  have an:(i+1)*s=i*s+s:=by rw[Am,Bl]
  rw[zK9 (s:=s) rfl aj om];have ak:=ae;have ao:(xH v).length=s:=ah;obtain⟨aa,h1,h2,h3⟩:=yf2 parts ab (i+1) (xI arr (i*s) x.cells.toList) (done++xH v) ho (λp aq=>hp p (by simp[aq])) ag (by rw[xJ,af];congr 1;omega) (by simp[hd,ao,an]) (by
   have al:i*s+x.cells.toList.length<=arr.size:=by simp;omega
   have e1:(xI arr (i*s) x.cells.toList).toList.take ((i+1)*s)=arr.toList.take (i*s)++x.cells.toList:=by
    apply Bx;intro j;rw[Ae];have ar:(List.take (i*s) arr.toList).length=i*s:=by simp;omega
    by_cases hj:j<(i+1)*s
    .rw[if_pos hj,Ak,zg4 _ _ _ _ al];simp only[C2];by_cases au:j<i*s;.rw[if_neg om,Aa om,Ae,if_pos au,Ak]
     .rw[if_pos om,Ai om,ar]
    .rw[if_neg hj,Bd (by simp[aj];omega)]
   rw[e1];exact ad.append ak);refine⟨aa,h1,by rw[h2,xJ],?_⟩;rw[Al,Ce,<-Bp];exact h3|[],_::_,_,_,_,_,_,h,_,_,_=>h.elim|_::_,[],_,_,_,_,_,h,_,_,_=>h.elim
theorem All2.of_parts(h:Sim c nt e σ a w L β):∀(ps:List (Nat×Operand)),All2 (λp q=>p.1=q.1/\RdS w L σ β p.2 q.2) (ps.map λp=>(p.1,zF e p.2)) (ps.map λp=>(p.1,a.eval p.2))|[]=>trivial|p::ps=>⟨⟨rfl,h.eval p.2⟩,All2.of_parts h ps⟩
theorem yo2{pos:String}(t:TypeId)(len:Nat)(ps:Array (Nat×Operand))(h:Sim c nt e σ a w L β):ROk (zb5 ((elT P t).map (·.1)) len (ps.toList.map λp=>(p.1,zF e p.2))) σ (Yield P c ⟨dst,.buildSlice t len ps,ty,pos,aft,g⟩ a w L σ β):=by
 unfold zb5;split
 .rename_i s af;split
  .rename_i ah;obtain⟨ho,hlen⟩:=ah;rintro⟨hp,aq,hs⟩;obtain⟨el,ak⟩:∃b,elT P t=some (s,b):=by cases hq:elT P t with |none=>simp[hq]at af|some q=>obtain⟨q1,q2⟩:=q;simp[hq]at af;subst af;exact⟨q2,rfl⟩
   obtain⟨el,i,z,hu,hi,hz,rfl,_,ar,_,_⟩:=zf0 ak;have ab:=All2.of_parts h ps.toList;have ai:∀aa,Instr.fill (λk=>some (k*i.size,i.size)) ((Array.range (len*i.size)).map (z.cells[·%z.cells.size]!)) (ps.map λ(k,x)=>(k,a.eval x)).toList=some aa->(Instr.buildSlice t len (ps.map λ(k,x)=>(k,a.eval x))).run P w=.ok (.slice (some ⟨w.heap.size,0,none⟩) len len) (w.alloc (.cells aa el)):=by
    intro aa hf;by_cases h0:len*i.size=0
    .have al:len=0:=by
      rcases Nat.mul_eq_zero.1 h0 with h|h;.exact h
      .omega
     subst al;simp at hlen;subst hlen;simp[Instr.fill]at hf;subst hf;have an:∀f:Nat->Value,(Array.range 0).map f=#[]:=λf=>by apply Db;simp
     simp[Instr.buildSlice,run_underlying hu,sizeOf,typeInfo,hi,Instr.fill,newRow,an]
    .exact run_buildSlice w t el len _ aa i z hu hi hz om h0 hf
   have aj:(ps.map λ(k,x)=>(k,a.eval x)).toList=ps.toList.map λp=>(p.1,a.eval p.2):=sm;obtain⟨aa,hf,au,ad⟩:=yq6 (s:=i.size) _ _ 0 ((Array.range (len*i.size)).map (z.cells[·%z.cells.size]!)) [] ho hp ab (by simp at hlen⊢;rw[hlen]) sm (by simp[All2]);rw[<-aj]at hf;have hr:=ai aa hf;have ag:((ps.toList.map λp=>(p.1,zF e p.2)).map λp=>zG6 p.2).length=len:=by rw[Ay,hlen]
   obtain⟨h1,h2⟩:=h.mem.alloc (.cells aa el) (len*i.size);refine⟨.slice (some ⟨w.heap.size,0,none⟩) len len,_,_,β,.inl (by simp[execOp,hr]),h1,h2,Ext.refl _ _,?_⟩;have ae:RdP (w.alloc (.cells aa el)) (xD L w.heap.size (len*i.size)) (.sl .full ((ps.toList.map λp=>(p.1,zF e p.2)).map λp=>zG6 p.2)) (.slice (some ⟨w.heap.size,0,none⟩) ((ps.toList.map λp=>(p.1,zF e p.2)).map λp=>zG6 p.2).length len):=by
    refine .of_row (xs:=aa.toList) hs (λr hr=>?_) (by rw[ag];simp[xD]) om (λ_=>sm) (λ_=>ag.symm) (yG _ _) (λk x hk=>by rw[Ab];simpa using hk) ?_;.obtain⟨p,ao,rfl⟩:=Ac.1 hr;simp only[zG6,Ay];exact(hp p ao).2
    .simp only[Cu]at ad;exact ad.imp λ_ _=>RdP.mono h2
   rw[ag]at ae;exact ae
  .trivial
 .trivial
def plcT(P:Program)(t:TypeId):Option (List (Nat×Nat)):=match P.underlying t with |some (.struct fs)=>fs.toList.mapM λf=>(P.info? f.type).map λi=>(f.offset,i.size)|some (.array n el)=>(P.info? el).map λi=>(List.range n).map λk=>(k*i.size,i.size)|_=>none
def yu8(pl:List (Nat×Nat))(cells:List V):List (Nat×V)->Option (List V) |[]=>some cells|(i,v)::r=>(match pl[i]?with |some (off,s)=>if wO v=true/\(xH v).length=s/\off+s<=cells.length then yu8 pl (putCells cells off (xH v)) r else none|none=>none)
def zx7(zs:Option (List V))(pl:Option (List (Nat×Nat)))(parts:List (Nat×V)):R:=match zs,pl with |some z,some pl=>(match yu8 pl z parts with|some cs=>.ok (.agg cs)|none=>.fail)|_,_=>.fail
theorem yk5{pl:List (Nat×Nat)}{ag:Nat->Option (Nat×Nat)}(ah:∀i x,pl[i]?=some x->ag i=some x):∀(parts:List (Nat×V))(aa:List (Nat×Value))(cells cs:List V)(arr:Array Value),yu8 pl cells parts=some cs->All2 (λp q=>p.1=q.1/\RdS w L σ β p.2 q.2) parts aa->All2 (RdC w L σ β) cells arr.toList->∃ae,Instr.fill ag arr aa=some ae/\All2 (RdC w L σ β) cs ae.toList
 |[],[],cells,cs,arr,h,_,ab=>by simp[yu8]at h;subst h;exact⟨arr,rfl,ab⟩|(i,v)::parts,(i',x)::aa,cells,cs,arr,h,⟨⟨hi,hr⟩,af⟩,ab=>by
  simp only at hi;subst hi;rw[yu8]at h;split at h
  .rename_i off s hp;split at h;.rename_i hc;have ad:=zp9 hr hc.1;have hl:=ad.length;have ai:=ab.length;simp only[C2]at hl ai;rw[zK9 (s:=s) (ah _ _ hp) (by rw[<-hl];exact hc.2.1) om];exact yk5 ah parts aa _ cs _ h af (zX2 ab ad om)
   .cases h
  .cases h|[],_::_,_,_,_,_,h,_=>h.elim|_::_,[],_,_,_,_,h,_=>h.elim
theorem xy2{pos:String}(t:TypeId)(ps:Array (Nat×Operand))(h:Sim c nt e σ a w L β):ROk (zx7 (zb1 P t) (plcT P t) (ps.toList.map λp=>(p.1,zF e p.2))) σ (Yield P c ⟨dst,.build t ps,ty,pos,aft,g⟩ a w L σ β):=by
 unfold zx7;split
 .rename_i z pl hz ab;split
  .rename_i cs hf;obtain⟨i,zv,hi,ah,ai,rfl⟩:=zF9 hz;have ad:=All2.of_parts h ps.toList;have ae:All2 (RdC w L σ β) (zv.cells.toList.map zc9) zv.cells.toList:=(zX1 ai).imp λ_ _=>RdC.of_pure;have aj:(ps.map λ(k,x)=>(k,a.eval x)).toList=ps.toList.map λp=>(p.1,a.eval p.2):=sm;have af:∃aa,P.built t (ps.map λ(k,x)=>(k,a.eval x)).toList=some aa/\All2 (RdC w L σ β) cs aa.toList:=by
    unfold plcT at ab;unfold Program.built;rw[hi,aj];split at ab;.rename_i fs hu;simp only[hu,ah,ab];exact yk5 (λk x hk=>by simpa using hk) _ _ _ _ _ hf ad ae
    .rename_i n el hu;cases ag:P.info? el with |none=>simp[ag]at ab|some ie=>simp only[ag,B9,Option.some.injEq]at ab;subst ab;simp only[hu,ah,ag];refine yk5 (λk x hk=>?_) _ _ _ _ _ hf ad ae;rw[B0]at hk;cases hr:(List.range n)[k]?with |none=>simp[hr]at hk|some q=>have hq:=(A1.1 hr);obtain⟨_,ak⟩:=hq;simp at ak;simp[hr]at hk;rw[<-hk,<-ak]
    .cases ab
   obtain⟨aa,hb,al⟩:=af;refine Yield.pure h (x:=.agg aa) ?_ ⟨aa.toList,sm,al⟩;have:=run_build (P:=P) w t _ aa hb;simp[execOp,this]
  .trivial
 .trivial
def bnd(v:Option V)(d:Int):Option Int:=match v with |none=>some d|some (.int _ n)=>some n|some _=>none
def zn9(ar:Option (Nat×Nat×Bool))(k:Nat)(es:Option Nat)(x:V)(lo hi:Option V):R:=match x with
 |.lsv id s n l0 m=>(match bnd lo 0,bnd hi m,es with |some l,some h,some z=>if k=2then .need (0<=l/\l<=h/\(h<=m∨(l0:Int)+h<=n)/\z=s) (.lsv id s n (l0+l.toNat) (h-l).toNat)else .fail|_,_,_=>.fail)|.ptr id off=>(match lo,hi,ar with |none,none,some (n,s,_)=>.ok (.bsv id s off n)|_,_,_=>.fail)|.str s=>(match bnd lo 0,bnd hi s.length with |some l,some h=>if k=1then .need (0<=l/\l<=h/\h<=s.length) (.str ((s.take h.toNat).drop l.toNat))else .fail|_,_=>.fail)|.sl _ rows=>(match bnd lo 0,bnd hi rows.length,es with |some l,some h,some z=>if k=2then .need (0<=l/\l<=h/\h<=rows.length/\uni z rows) (.sl .ro ((rows.take h.toNat).drop l.toNat))else .fail|_,_,_=>.fail)|_=>.fail
theorem zh6{v:Value}{k:IntKind}{i:Int}{y:Nat}{code:BoundsCode}(hv:v=.int k i)(h0:0<=i)(hy:i<=y)(w:World):(Instr.sliceBound v y code).run P w=.ok i.toNat w:=by subst hv;simp[Instr.sliceBound,asIntOf,h0,hy]
theorem xq3{x:Option Operand}{d n:Int}(hb:bnd (x.map (zF e)) d=some n)(h:Sim c nt e σ a w L β):(x=none/\n=d)∨∃p k,x=some p/\a.eval p=.int k n:=by
 unfold bnd at hb;split at hb;.rename_i hx;cases x with |none=>simp at hb;exact .inl ⟨rfl,hb.symm⟩|some p=>simp at hx
 .rename_i k m hx;cases x with |none=>simp at hx|some p=>simp at hx hb;subst hb;exact .inr ⟨p,k,rfl,yH (hx▸h.eval p)⟩
 .cases hb
theorem zF5{isS:Bool}{len l hh:Nat}{lo hi:Option Value}(aa:(lo=none/\l=0)∨∃k,lo=some (.int k l))(ab:(hi=none/\hh=len)∨∃k,hi=some (.int k hh))(h1:l<=hh)(h2:hh<=cap)(w:World):(Instr.sliceBounds isS len cap lo hi none).run P w=.ok (l,hh,cap) w:=by
 rcases aa with⟨rfl,rfl⟩|⟨k,rfl⟩<;>rcases ab with⟨rfl,rfl⟩|⟨k',rfl⟩;.simp[Instr.sliceBounds]
 .have:=λcode=>zh6 (P:=P) (code:=code) (v:=.int k' hh) (y:=cap) rfl (Int.natCast_nonneg _) om w;simp[Instr.sliceBounds,this]
 .have:=λcode=>zh6 (P:=P) (code:=code) (v:=.int k l) (y:=hh) rfl (Int.natCast_nonneg _) om w;simp[Instr.sliceBounds,this]
 .have e1:=λcode=>zh6 (P:=P) (code:=code) (v:=.int k l) (y:=hh) rfl (Int.natCast_nonneg _) om w;have e2:=λcode=>zh6 (P:=P) (code:=code) (v:=.int k' hh) (y:=cap) rfl (Int.natCast_nonneg _) om w;simp[Instr.sliceBounds,e1,e2]
theorem yS0(s:List UInt8)(l h:Nat):(ByteArray.mk s.toArray).extract l h=ByteArray.mk ((s.take h).drop l).toArray:=by apply ByteArray.ext;simp[ByteArray.data_extract,E4];rw[List.drop_take]
theorem RdP.sub{rows:List (List V)}{s l hh:Nat}{ad:Option Addr}(r:RdP w L (.sl .ro rows) (.slice ad n cap))(hs:0<s)(hu:uni s rows)(h1:l<=hh)(h2:hh<=rows.length):RdP w L (.sl .ro ((rows.take hh).drop l)) (.slice (if cap=l then ad else ad.map (·.add (l*s))) (hh-l) (cap-l)):=by
 have hlen:((rows.take hh).drop l).length=hh-l:=by simp;omega
 by_cases h0:hh-l=0;.have af:(rows.take hh).drop l=[]:=B6 (by rw[hlen,h0]);rw[af,h0];exact .sl0 _ _ _ (λq=>by cases q) (λ_=>sm)
 .have ag:rows≠[]:=λq=>by subst q;simp at h2;omega
  obtain⟨s',b,o',al,e1,aa,ab,hlim,hcap,_,hc⟩:=r.flat ag;cases e1;have ah:s'=s:=by obtain⟨r0,rest,rfl⟩:=D7 ag;rw[<-ab r0 sm,hu r0 sm]
  subst ah;rw[if_neg om];simp only[B9,wE];have hm:(rows.length)*s'=l*s'+(hh-l)*s'+(rows.length-hh)*s':=by rw[<-Am,<-Am];congr 1;omega
  rw[<-hlen];have ae:uni s' ((rows.take hh).drop l):=λq hq=>ab q (Bk (D4 hq));refine .of_flat aa ae (by rw[hlen];omega) (by rw[hlen];omega) (λ_=>sm) (λq=>by cases q) λk v hk=>?_;have ai:k<(hh-l)*s':=by have:=(A1.1 hk).1;rwa[zW ae,hlen]at this
  have hi:k/s'<hh-l:=by rw[Cp aa];exact ai
  have hj:k%s'<s':=Cy _ aa;have aj:k=k/s'*s'+k%s':=by rw[Bz];exact(Dk k s').symm
  rw[aj,yK _ _ ae hj]at hk;rw[B5,Ae,if_pos om]at hk;have ak:rows.flatten[(l+k/s')*s'+k%s']?=some v:=by rw[yK _ _ ab hj];exact hk
  obtain⟨y,hy,ry⟩:=hc _ _ ak;refine⟨y,?_,ry⟩;rw[show o'+l*s'+k=o'+((l+k/s')*s'+k%s')by rw[Am];omega];exact hy
theorem xz1{pos:String}(t:TypeId)(x:Operand)(lo hi:Option Operand)(h:Sim c nt e σ a w L β):ROk (zn9 (arrT P t) (lenT P t) ((elT P t).map (·.1)) (zF e x) (lo.map (zF e)) (hi.map (zF e))) σ (Yield P c ⟨dst,.slice t x lo hi none,ty,pos,aft,g⟩ a w L σ β):=by
 have hx:=h.eval x;have conv:∀{z:Option Operand}{d n:Int}{m:Nat},bnd (z.map (zF e)) d=some n->n=m->∀{dn:Nat},d=dn->((z.map a.eval)=none/\m=dn)∨∃k,(z.map a.eval)=some (.int k m):=by
  intro z d n m hz hn dn hd;rcases xq3 hz h with⟨rfl,q⟩|⟨p,k,rfl,q⟩;.exact .inl ⟨rfl,om⟩
  .exact .inr ⟨k,by simp[q,hn]⟩
 unfold zn9;split
 .rename_i id s n l0 m h1;rw[h1]at hx;split
  .rename_i l hh z hl ae hz;split
   .rename_i hk;obtain⟨ak,al⟩:=zM9 hk;rintro⟨a0,a1,a2,rfl⟩;have r1:=conv hl (m:=l.toNat) om (dn:=0) rfl;have r2:=conv ae (m:=hh.toNat) om (dn:=m) rfl;obtain⟨an,af⟩:∃b,elT P t=some (z,b):=by cases hq:elT P t with |none=>simp[hq]at hz|some q=>obtain⟨q1,q2⟩:=q;simp[hq]at hz;subst hz;exact⟨q2,rfl⟩
    obtain⟨el,i,zz,hu,ah,ao,rfl,_,aq,hs,_⟩:=zf0 af;obtain⟨ad,cap,hv,ai,ab,hc⟩:=hx;have ar:hh.toNat<=cap:=by obtain⟨q1,q2⟩:=ai;clear ab hc;omega
    have:=zF5 (P:=P) (isS:=true) (len:=m) (cap:=cap) r1 r2 om ar w;refine Yield.pure h (x:=.slice (if cap=l.toNat then ad else ad.map (·.add (l.toNat*i.size))) (hh.toNat-l.toNat) (cap-l.toNat)) ?_ ?_;.simp[execOp,hv,Instr.sliceAt,run_underlying hu,Instr.slice,this,sizeOf,typeInfo,ah]
    .refine⟨_,cap-l.toNat,by rw[show(hh-l).toNat=hh.toNat-l.toNat by omega],by obtain⟨q1,q2⟩:=ai;clear ab hc;omega,λhp=>?_,?_⟩;.obtain⟨b,o,rfl⟩:=ab (by clear hc;omega);rw[if_neg om];exact⟨b,o+l.toNat*i.size,by simp[wE]⟩
     .rcases hc with hd|⟨rows,hσ,hn,hb⟩;.exact .inl hd
      .refine .inr ⟨rows,hσ,hn,λq1=>?_⟩;obtain⟨b0,c0,hβ,ax,au,aa⟩:=hb q1;clear hb ab;refine⟨b0,c0,hβ,by clear aa;omega,by clear aa;omega,λay=>?_⟩;obtain⟨k0,e1,e2⟩:=aa (by clear aa;omega);clear aa;refine⟨k0,e1,?_⟩;rw[if_neg om,e2];simp[wE,Am]
   .trivial
  .trivial
 .rename_i id off h1;rw[h1]at hx;split
  .rename_i n sz ag au az av;obtain⟨bl,hb,hv⟩:=hx;obtain⟨el,hu,af,_⟩:=zK5 av;have e1:lo=none:=by cases lo<;>simp_all
   have e2:hi=none:=by cases hi<;>simp_all
   subst e1 e2;refine Yield.pure h (x:=.slice (some ⟨bl,off,none⟩) n n) ?_ ⟨bl,hb,rfl⟩;simp[execOp,hv,Instr.sliceAt,run_underlying hu,Instr.sureAddr,Instr.sliceBounds,za0 af,wE]
  .trivial
 .rename_i s h1;rw[h1]at hx;split
  .rename_i l hh hl ae;split;.rename_i hk;have hu:=xb6 hk;rintro⟨a0,a1,a2⟩;have r1:=conv hl (m:=l.toNat) om (dn:=0) rfl;have r2:=conv ae (m:=hh.toNat) om (dn:=s.length) rfl;refine Yield.pure h (x:=.string ⟨((s.take hh.toNat).drop l.toNat).toArray⟩) ?_ (RdP.str _);have:=zF5 (P:=P) (isS:=false) (len:=(ByteArray.mk s.toArray).size) (cap:=(ByteArray.mk s.toArray).size) r1 (by rw[zm3];exact r2) om (by rw[zm3];omega) w;simp[execOp,wW hx,Instr.sliceAt,run_underlying hu,Instr.slice,this,yS0]
   .trivial
  .trivial
 .rename_i gg rows h1;rw[h1]at hx;split
  .rename_i l hh z hl ae hz;split
   .rename_i hk;obtain⟨ak,al⟩:=zM9 hk;rintro⟨a0,a1,a2,aw⟩;have r1:=conv hl (m:=l.toNat) om (dn:=0) rfl;have r2:=conv ae (m:=hh.toNat) om (dn:=rows.length) rfl;obtain⟨an,af⟩:∃b,elT P t=some (z,b):=by cases hq:elT P t with |none=>simp[hq]at hz|some q=>obtain⟨q1,q2⟩:=q;simp[hq]at hz;subst hz;exact⟨q2,rfl⟩
    obtain⟨el,i,zz,hu,ah,ao,rfl,_,aq,hs,_⟩:=zf0 af;have hr:=zw7 hx;obtain⟨base,cap,hv,a6,_⟩:=hr.len;rw[hv]at hr;have aj:=hr.sub (l:=l.toNat) (hh:=hh.toNat) hs aw om om;refine Yield.pure h (x:=.slice (if cap=l.toNat then base else base.map (·.add (l.toNat*i.size))) (hh.toNat-l.toNat) (cap-l.toNat)) ?_ aj;have:=zF5 (P:=P) (isS:=true) (len:=rows.length) (cap:=cap) r1 r2 om om w;simp[execOp,hv,Instr.sliceAt,run_underlying hu,Instr.slice,this,sizeOf,typeInfo,ah]
   .trivial
  .trivial
 .trivial
def zr3(k:Nat)(es:Option Nat)(σ:St)(x lo:V):R:=match x,lo,es with |.sl (.app id) rows,.int _ l,some z=>(match σ[id]?with |some (.app n s)=>if k=2then .needst (0<=l/\l<=rows.length/\rows.length=n/\z=s) (.sl (.app σ.length) (rows.drop l.toNat)) (σ.set id (.app (n+1) s)++[.app (n-l.toNat) s])else .fail|_=>.fail)|_,_,_=>.fail
theorem Ext.setApp{i s m:Nat}{x y:Value}(hi:σ[i]?=some (.app n s))(hβ:β[i]?=some x)(hx:∀a,x≠.pointer a)(ab:n<m):Ext σ β (σ.set i (.app m s)) (β.set i y):=by
 have aa:i<σ.length:=(A1.1 hi).1;refine⟨λid a e=>?_,λid n0 s0 e=>?_,λid r0 s0 e=>?_,λid e=>?_⟩
 .have:i≠id:=λq=>by subst q;rw[hβ]at e;cases e;exact hx _ rfl
  rw[Ad this];exact e
 .by_cases q:i=id;.subst q;rw[hi]at e;cases e;exact⟨m,by rw[Aj aa],om,λe=>om⟩
  .exact⟨n0,by rw[Ad q];exact e,A3 _,λ_=>by rw[Ad q]⟩
 .have q:i≠id:=λq=>by subst q;rw[hi]at e;cases e
  exact .inr ⟨r0,by rw[Ad q];exact e,A3 _,λ_=>by rw[Ad q]⟩
 .have q:i≠id:=λq=>by subst q;rw[hi]at e;cases e
  rw[Ad q];exact e
theorem xl5{pos:String}(t:TypeId)(x lo:Operand)(h:Sim c nt e σ a w L β):ROk (zr3 (lenT P t) ((elT P t).map (·.1)) σ (zF e x) (zF e lo)) σ (Yield P c ⟨dst,.slice t x (some lo) none none,ty,pos,aft,g⟩ a w L σ β):=by
 have hx:=h.eval x;have ah:=h.eval lo;unfold zr3;split
 .rename_i id rows kk l z h1 h2 hz;rw[h1]at hx;rw[h2]at ah;split
  .rename_i n s hσ;split
   .rename_i hk;obtain⟨a8,aA⟩:=zM9 hk;rintro⟨a0,a1,hn,ai⟩;subst ai;obtain⟨aB,ar⟩:∃b,elT P t=some (z,b):=by cases hq:elT P t with |none=>simp[hq]at hz|some q=>obtain⟨q1,q2⟩:=q;simp[hq]at hz;subst hz;exact⟨q2,rfl⟩
    obtain⟨el,i,zz,hu,au,aC,rfl,_,aD,hs,_⟩:=zf0 ar;obtain⟨hr,n',s',e1,hle,av,aj⟩:=hx;rw[hσ]at e1;cases e1;have hβ:=av hn;have hok:=h.mem.objs id _ _ hσ hβ;obtain⟨ad,cap,hv,aw,ak,aa⟩:=hok;rw[hv]at hr hβ;have aE:id<σ.length:=(A1.1 hσ).1;subst hn;have ae:=hr.sub (l:=l.toNat) (hh:=rows.length) hs aj om om;rw[Av (A3 _)]at ae;have hb:=zF5 (P:=P) (isS:=true) (len:=rows.length) (cap:=cap) (l:=l.toNat) (hh:=rows.length) (lo:=some (a.eval lo)) (hi:=none) (.inr ⟨kk,by rw[yH ah];congr 2;omega⟩) (.inl ⟨rfl,rfl⟩) om aw w;have ab:Ext σ β (σ.set id (.app (rows.length+1) i.size)) (β.set id (.slice none (rows.length+1) (rows.length+1))):=Ext.setApp hσ hβ (λa e=>by cases e) om;have al:Mem c w L (σ.set id (.app (rows.length+1) i.size)) (β.set id (.slice none (rows.length+1) (rows.length+1))):=by
     refine h.mem.upd id _ _ (Le.refl _ _) ab (λ_=>False) (λ_ _ _ _ _ _ _ _ q=>q) (λ_ q=>q.elim) (λ_ _=>⟨rfl,rfl⟩) rfl rfl rfl rfl h.mem.lim ?_ (λb q=>?_);.exact⟨none,_,rfl,A3 _,ak,λq=>om⟩
     .simp[excl]at q
    have hex:∀b,excl (.app (rows.length-l.toNat) i.size) (.slice (if cap=l.toNat then ad else ad.map (·.add (l.toNat*i.size))) (rows.length-l.toNat) (cap-l.toNat))=some b->excl (.app rows.length i.size) (.slice ad rows.length cap)=some b:=λb q=>by
     clear aa;by_cases q1:cap=l.toNat;.rw[if_pos q1]at q;cases ad with |none=>simp[excl]at q|some a1=>simp only[excl]at q;rw[if_neg om]at q;cases q
     .rw[if_neg q1]at q;cases ad with |none=>simp[excl]at q|some a1=>
       simp only[excl,B9]at q⊢;split at q;.rename_i q2;rw[if_pos om];rw[<-q];unfold Addr.add;split<;>rfl
       .cases q
    have ax:=al.push (.app (rows.length-l.toNat) i.size) (.slice (if cap=l.toNat then ad else ad.map (·.add (l.toNat*i.size))) (rows.length-l.toNat) (cap-l.toNat)) ⟨_,_,rfl,by clear aa;omega,ak,λq=>by
      have q0:rows.length<cap:=by clear aa;omega
      obtain⟨b,o,arr,T,fz,rfl,hh,hf,an,hL⟩:=aa q0;have q1:¬cap=l.toNat:=by clear aa;omega
      refine⟨b,o+l.toNat*i.size,arr,T,fz,by rw[if_neg q1];simp[wE],hh,hf,?_,?_⟩;.rw[By,<-Am];rw[show l.toNat+(cap-l.toNat)=cap by clear aa;omega];exact an
      .rw[hL,By,<-Am];rw[show l.toNat+(rows.length-l.toNat)=rows.length by clear aa;omega]⟩ (λj o' x' b ay ao he af=>by
      have az:=hex b af;rcases wX ay with⟨rfl,rfl,_⟩|⟨aq,a6⟩
      .rcases wX ao with⟨_,rfl,_⟩|⟨q,_⟩;.simp[excl]at he
       .exact q rfl
      .rcases wX ao with⟨q,_,_⟩|⟨_,a7⟩;.exact aq q
       .exact h.mem.apart j id _ _ _ _ b aq a6 a7 hσ hβ he az) (λb af=>h.mem.mine id _ _ b hσ hβ (hex b af));have ag:=ab.trans (Ext.push _ _ al.len (.app (rows.length-l.toNat) i.size) (.slice (if cap=l.toNat then ad else ad.map (·.add (l.toNat*i.size))) (rows.length-l.toNat) (cap-l.toNat)));refine⟨_,w,L,_,.inl ?_,ax,Le.refl _ _,ag,ae,rows.length-l.toNat,i.size,sm,sm,λ_=>by simp[h.mem.len],λr hr=>aj r (D4 hr)⟩;simp[execOp,hv,Instr.sliceAt,run_underlying hu,Instr.slice,hb,sizeOf,typeInfo,au]
   .trivial
  .trivial
 .trivial
def zr2(es:Option Nat)(x lo hi mx:V):R:=match x,lo,hi,mx,es with |.sl _ rows,.int _ l,.int _ h,.int _ m,some z=>.need (0<=l/\l<=h/\h<=rows.length/\m=h/\uni z rows) (.sl .full ((rows.take h.toNat).drop l.toNat))|.lsv _ s _ _ n,.int _ l,.int _ h,.int _ m,some z=>.need (0<=l/\l<=h/\h<=m/\m<=n/\z=s) (if l=m then .sl .full []else .u)|_,_,_,_,_=>.fail
theorem RdP.full{rows:List (List V)}{ad:Option Addr}(r:RdP w L (.sl .ro rows) (.slice ad n n))(hn:n=rows.length):RdP w L (.sl .full rows) (.slice ad n n):=by cases r with |sl0 _ a cap hg ha=>exact .sl0 _ _ _ (λ_=>rfl) (λ_=>sm)|sl _ _ s b o cap c ha hs hlen hlim hcap hg hc hr=>exact .sl _ rows s b o _ c (λ_=>sm) hs hlen hlim hcap (λ_=>rfl) hc hr
theorem RdP.shrink{rows:List (List V)}{s M:Nat}{base:Option Addr}(hr:RdP w L (.sl .ro rows) (.slice base n cap))(hs:0<s)(ad:uni s rows)(hM:M<=rows.length):RdP w L (.sl .ro (rows.take M)) (.slice base M M):=by
 have hlen:(rows.take M).length=M:=by simp;omega
 by_cases h0:M=0;.subst h0;exact .sl0 _ _ _ (λq=>by cases q) (λ_=>sm)
 .have aa:rows≠[]:=λq=>by subst q;simp at hM;omega
  obtain⟨s',b,o',ag,q,ae,ab,hlim,hcap,_,hc⟩:=hr.flat aa;cases q;have af:s'=s:=by obtain⟨r0,rest,rfl⟩:=D7 aa;rw[<-ab r0 sm,ad r0 sm]
  subst af;have hm:M*s'<=rows.length*s':=An _ hM;have key:RdP w L (.sl .ro (rows.take M)) (.slice (some ⟨b,o',none⟩) (rows.take M).length M):=by
   refine .of_flat ae (λq hq=>ab q (Bk hq)) (by rw[hlen];omega) om (λ_=>sm) (λq=>by cases q) λk v hk=>hc k v ?_;have:rows.flatten=(rows.take M).flatten++(rows.drop M).flatten:=by rw[<-C0,Bq]
   rw[this,Aa (A1.1 hk).1];exact hk
  rw[hlen]at key;exact key
theorem xl4{pos:String}(t:TypeId)(x lo hi mx:Operand)(h:Sim c nt e σ a w L β):ROk (zr2 ((elT P t).map (·.1)) (zF e x) (zF e lo) (zF e hi) (zF e mx)) σ (Yield P c ⟨dst,.slice t x (some lo) (some hi) (some mx),ty,pos,aft,g⟩ a w L σ β):=by
 have hx:=h.eval x;have h2:=h.eval lo;have h3:=h.eval hi;have h4:=h.eval mx;unfold zr2;split
 .rename_i gg rows k1 l k2 hh k3 m z e1 e2 e3 e4 hz;rw[e1]at hx;rw[e2]at h2;rw[e3]at h3;rw[e4]at h4;have e2:=yH h2;have e3:=yH h3;have e4:=yH h4;rintro⟨a0,a1,a2,rfl,ag⟩;obtain⟨ah,ab⟩:∃b,elT P t=some (z,b):=by cases hq:elT P t with |none=>simp[hq]at hz|some q=>obtain⟨q1,q2⟩:=q;simp[hq]at hz;subst hz;exact⟨q2,rfl⟩
  obtain⟨el,i,zz,hu,ae,ai,rfl,_,aj,hs,_⟩:=zf0 ab;have hr:=zw7 hx;obtain⟨base,cap,hv,al,_⟩:=hr.len;rw[hv]at hr;have af:=hr.shrink (M:=m.toNat) hs ag om;have aa:=af.sub (l:=l.toNat) (hh:=m.toNat) hs (λq hq=>ag q (Bk hq)) om (by simp;omega);rw[En,Nat.min_self]at aa;refine Yield.pure h (x:=.slice (if m.toNat=l.toNat then base else base.map (·.add (l.toNat*i.size))) (m.toNat-l.toNat) (m.toNat-l.toNat)) ?_ (aa.full (by simp;omega));have b1:=λcode=>zh6 (P:=P) (code:=code) e2 a0 (show l<=(m.toNat:Nat)by omega) w;have b2:=λcode=>zh6 (P:=P) (code:=code) e3 om (show m<=(m.toNat:Nat)by omega) w;have b3:=λcode=>zh6 (P:=P) (code:=code) e4 om (show m<=(cap:Nat)by omega) w;have:=run_underlying hu;simp[execOp,hv,Instr.sliceAt,run_underlying hu,Instr.slice,Instr.sliceBounds,b1,b2,b3,sizeOf,typeInfo,ae]
 .rename_i id s n0 an n k1 l k2 hh k3 m z e1 e2 e3 e4 hz;rw[e1]at hx;rw[e2]at h2;rw[e3]at h3;rw[e4]at h4;have e2:=yH h2;have e3:=yH h3;have e4:=yH h4;rintro⟨a0,a1,a2,a3,rfl⟩;obtain⟨ah,ab⟩:∃b,elT P t=some (z,b):=by cases hq:elT P t with |none=>simp[hq]at hz|some q=>obtain⟨q1,q2⟩:=q;simp[hq]at hz;subst hz;exact⟨q2,rfl⟩
  obtain⟨el,i,zz,hu,ae,ai,rfl,_,aj,hs,_⟩:=zf0 ab;obtain⟨ad,cap,hv,ak,_,_⟩:=hx;refine Yield.pure h (x:=.slice (if m.toNat=l.toNat then ad else ad.map (·.add (l.toNat*i.size))) (hh.toNat-l.toNat) (m.toNat-l.toNat)) ?_ (by
   split;.have h1:hh.toNat-l.toNat=0:=om;have h2:m.toNat-l.toNat=0:=om;rw[h1,h2];exact RdP.sl0 _ _ _ (λ_=>rfl) (λ_=>sm)
   .trivial);have b1:=λcode=>zh6 (P:=P) (code:=code) e2 a0 (show l<=(hh.toNat:Nat)by omega) w;have b2:=λcode=>zh6 (P:=P) (code:=code) e3 om (show hh<=(m.toNat:Nat)by omega) w;have b3:=λcode=>zh6 (P:=P) (code:=code) e4 om (show m<=(cap:Nat)by have:=ak.1;omega) w;simp[execOp,hv,Instr.sliceAt,run_underlying hu,Instr.slice,Instr.sliceBounds,b1,b2,b3,sizeOf,typeInfo,ae]
 .trivial
end
end Go.Vx
