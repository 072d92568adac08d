/-
  Operations over trees: conversions, fields of values, function values, make; and all of them under one word.
  No condition: a library text; nothing of the program is named.
-/
import Derived.Test.YtplackkccmeioaaGreatKCAA
set_option maxHeartbeats 8000000
namespace Go.Vx
open Go
section
variable {P:Program} {c:Ctx} {nt:Nat} {e:Env} {I:St} {a:Act} {w:World} {L:Nat->Nat} {J:aj1} {o:Oper}
variable {t:TypeId}{tx:TypeId}{ty:TypeId}{el:TypeId}{cap:Nat}{x:Value}{r2:List (List V)}{i:TypeInfo}{base:Option Addr}{n:Nat}
theorem qm {s aa:Nat} (h:eF P t=some (s,aa)): ∃el i z,P.underlying t=some (.slice el)/\P.info? el=some i/\i.zero=some z/\i.size=s/\i.bytes=aa/\z.cells.size=s/\0<s/\0<aa:=by
 unfold eF at h
 split at h
 .rename_i el hu
  cases hi:P.info? el with
  |none=>grind
  |some i=>
   cases hz:i.zero<;>grind
 grind
def wX (rows:List (List V)) (lo m:Nat):List (List V):=((rows.drop lo).take m).map λr=>r.map k5
def xI (rows:List (List V)):Bool:=rows.all λr=>r.all pN
def Qj (rows:List (List V)) (s' s n lo m:Nat):Prop:=s'=s/\rows.length=n/\lo+m<=n/\xI ((rows.drop lo).take m)=true
def BR (k:Nat) (I:St):V->Option (List (List V))
 | .sl _ rows=>if k=2 then some rows else none
 | .str s=>if k=1 then some (zO s)else none
 | .cM id _ _ lo m=>if k=2 then(match I[id]? with|some (.cj rows _)=>some (wX rows lo m)|_=>none)else none
 |_=>none
def sD (I:St):V->Prop
 | .cM id s n lo m=>(match I[id]? with|some (.cj rows s')=>Qj rows s' s n lo m|_=>False)
 |_=>True
def sE (el:Option (Nat×Nat)) (k2:Nat) (I:St) (x y:V):R:=
 match el,BR k2 I y with
 |some (s,lk),some r2=>
  (match x with
  | .sl .full r1=> .dF (sD I y/\(r1.length+r2.length)*lk<=140737488355328/\eI s r1/\eI s r2) (.sl (.app I.length) (r1++r2)) (I++ [.app (r1.length+r2.length) s])
  | .sl (.app id) r1=>(match I[id]? with
   |some (.app n s')=> .dF (sD I y/\r1.length=n/\s'=s/\(r1.length+r2.length)*lk<=140737488355328/\eI s r2) (.sl (.app id) (r1++r2)) (I.set id (.app (n+r2.length) s'))
   |_=> .fail)
  | .cM id s1 n lo m=>(match I[id]? with
   |some (.cj rows s')=>
    if lo+m+r2.length<=n then .dF (sD I y/\s1=s/\s'=s/\rows.length=n/\eI s r2) (.cM id s n lo (m+r2.length)) (I.set id (.cj (rows.take (lo+m)++r2++rows.drop (lo+m+r2.length)) s))
    else .dF (sD I y/\s1=s/\s'=s/\rows.length=n/\eI s r2/\lo=0/\m=n/\(n+r2.length)*lk<=140737488355328) (.cM id s (n+r2.length) 0 (n+r2.length)) (I.set id (.cj (rows++r2) s))
   |_=> .fail)
  |_=> .fail)
 |_,_=> .fail
def GP (k:Nat) (I:St):V->Option (List (List V))
 | .sl _ rows=>if k=2 then some rows else none
 | .str s=>if k=1 then some (zO s)else none
 | .cM id _ _ lo m=>if k=2 then(match I[id]? with|some (.cj rows _)=>some ((rows.drop lo).take m)|_=>none)else none
 |_=>none
def BS (I:St):V->Prop
 | .cM id s n lo m=>(match I[id]? with|some (.cj rows s')=>s'=s/\rows.length=n/\lo+m<=n|_=>False)
 |_=>True
def sG (el:Option (Nat×Nat)) (k2:Nat) (I:St) (x y:V):R:=
 match x with
 | .cM id s1 n lo m=>(match el,GP k2 I y with
  |some (s,lk),some r2=>(match I[id]? with
   |some (.cj rows s')=>
    if lo+m+r2.length<=n then .dF (BS I y/\s1=s/\s'=s/\rows.length=n/\eI s r2) (.cM id s n lo (m+r2.length)) (I.set id (.cj (rows.take (lo+m)++r2++rows.drop (lo+m+r2.length)) s))
    else .dF (BS I y/\s1=s/\s'=s/\rows.length=n/\eI s r2/\lo=0/\m=n/\(n+r2.length)*lk<=140737488355328) (.cM id s (n+r2.length) 0 (n+r2.length)) (I.set id (.cj (rows++r2) s))
   |_=> .fail)
  |_,_=> .fail)
 |x=>match el,BR k2 I y with
 |some (s,lk),some r2=>
  (match x with
  | .sl .full r1=> .dF (sD I y/\(r1.length+r2.length)*lk<=140737488355328/\eI s r1/\eI s r2/\(r2= []->r1= [])) (.cM I.length s (r1.length+r2.length) 0 (r1.length+r2.length)) (I++ [.cj (r1++r2) s])
  |_=> .fail)
 |_,_=> .fail
theorem BT {y:V} {s:Nat} (hm:Mem c w L I J) (ai:sD I y) (hy:BR (dL P tx) I y=some r2) (r:dD w L I J y x) (hs:0<s) (hu:eI s r2):
  ∃news,Src P s tx x r2.length news w/\bP (cF w L) r2.flatten news:=by
 unfold BR at hy
 split at hy
 .rename_i gg rows
  split at hy
  .rename_i h2
   cases hy
   obtain⟨el,ab⟩:=uw h2
   exact(sC r).src ab hs hu
  grind
 .rename_i q
  split at hy
  .rename_i h1
   cases hy
   have h1:=I9 h1
   have hx:=lh r
   subst hx
   by_cases hq:q= []
   .subst hq
    refine⟨[],⟨.inr h1,λ_=>rfl, ?_, ?_,by simp[zO],sm⟩,tV⟩
    all_goals simp[Builtin.firstCells]
   .have av:s=1:=by
     obtain⟨b,rest,rfl⟩:=Cl hq
     exact(hu [.int .u8 b.toNat] (by simp[zO])).symm
    subst av
    have:=Src.ofString w h1 ⟨q.toArray⟩
    grind[yf,zO,IY]
  grind
 .rename_i id s1 n lo m
  split at hy
  .rename_i h2
   obtain⟨el,ab⟩:=uw h2
   split at hy
   .rename_i rows s' cJ
    cases hy
    simp only[sD,cJ]at ai
    obtain⟨rfl,hn,aC,hp⟩:=ai
    obtain⟨ad,cap,hv,aD,aj,hc⟩:=r
    have ak:(wX rows lo m).length=m:=by grind[wX]
    by_cases h0:m=0
    .subst h0
     have al:wX rows lo 0= []:=by rfl
     rw[al,hv]
     cases ad with
     |none=>exact⟨[],Src.ofNil w ab cap,tV⟩
     |some ad=>exact⟨[],(by grind[Src.ofSlice]),tV⟩
    .rcases hc with hd|⟨cC,an,aE,hb⟩
     .grind
     .rw[cJ]at an
      cases an
      obtain⟨b0,c0,dh,dq,aF,af⟩:=hb hn.symm
      clear hb aj
      have aG:0<m:=om
      have ao:lo<c0:=om
      obtain⟨k0,rfl,rfl⟩:=af ao
      clear af
      obtain⟨a2,a8,e1,aA,aH,aq,cQ⟩:=hm.di id _ _ cJ dh
      cases e1
      obtain⟨b',arr,T,fz,e2,hh,_,aI,_,ah⟩:=cQ (Nat.lt_of_le_of_lt (A3 _) ao)
      cases e2
      clear cQ
      have aw:s'=s:=by
       have ae:0<(wX rows lo m).length:=om
       have h1:=hu _ (A8 ae)
       grind[wX]
      subst aw
      have aJ:=yB aq
      have ax:=yB hu
      rw[ak]at ax
      have ay:(lo+m)*s'<=rows.length*s':=Ak _ om
      rw[B4]at ay
      have aK:rows.length*s'<=arr.size:=by
       have:=ah.length
       grind
      have aB: ∀k v y,(wX rows lo m).flatten[k]? =some v->arr[lo*s'+k]? =some y->cF w L v y:=by
       intro k v y hk az
       have ar:k<m*s':=by grind
       have hi:k/s'<m:=by simp_all[C3]
       have hj:k%s'<s':=Cr _ hs
       have a1:k=k/s'*s'+k%s':=by grind[D1]
       rw[a1,yQ _ _ hu hj]at hk
       simp only[wX,B6,Ap,aiv hi,C6]at hk
       have ae:lo+k/s'<rows.length:=om
       rw[A0 ae]at hk
       simp only[Bb,Ax,B6,Av]at hk
       obtain⟨v0,aL,rfl⟩:=hk
       have hf:rows.flatten[(lo+k/s')*s'+k%s']? =some v0:=by
        rw[yQ _ _ aq hj,A0 ae];grind
       obtain⟨z,hz,rz⟩:=ah.get _ _ hf
       have au:(lo+k/s')*s'+k%s'=lo*s'+k:=by grind
       rw[au,Ap,aiv om,Aq,az]at hz
       cases hz
       refine df.k5 rz ?_
       unfold xI at hp
       rw[Am]at hp
       have aP:rows[lo+k/s']∈(rows.drop lo).take m:=by
        rw[Ar]
        exact⟨k/s',by grind⟩
       grind
      have a6:((arr.toList.drop (lo*s')).take (m*s')).length=m*s':=by grind
      rw[ak,hv]
      have aa:bP (cF w L) (wX rows lo m).flatten ((arr.toList.drop (lo*s')).take (m*s')):=by
       grind[bP.of]
      refine⟨_,Src.ofSlice w ab ⟨k0,lo*s',none⟩ m cap _ a6 (λj u hj=> ?_) (λu a7=> ?_),aa⟩
      .rw[Ap]at hj
       split at hj
       .rw[C6,Aq]at hj
        grind[wE,World.cell?]
       grind
      .obtain⟨k,hk⟩:=Ar.1 a7
       have ar:k<(wX rows lo m).flatten.length:=by
        grind
       obtain⟨z,hz,rz⟩:=aa.get k _ (A0 ar)
       rw[hk]at hz;cases hz
       exact rz.dG
   grind
  grind
 grind
theorem Qk {y:V} {s:Nat} (hm:Mem c w L I J) (ai:BS I y) (hy:GP (dL P tx) I y=some r2) (r:dD w L I J y x) (hs:0<s) (hu:eI s r2):
  ∃news,Src P s tx x r2.length news w/\bP (df w L I J) r2.flatten news:=by
 unfold GP at hy
 split at hy
 .rename_i gg rows
  split at hy
  .rename_i h2
   cases hy
   obtain⟨el,ab⟩:=uw h2
   obtain⟨news,q1,q2⟩:=(sC r).src ab hs hu
   exact⟨news,q1,q2.imp λ_ _=>df.dw⟩
  grind
 .rename_i q
  split at hy
  .rename_i h1
   cases hy
   have h1:=I9 h1
   have hx:=lh r
   subst hx
   by_cases hq:q= []
   .subst hq
    refine⟨[],⟨.inr h1,λ_=>rfl, ?_, ?_,by simp[zO],sm⟩,tV⟩
    all_goals simp[Builtin.firstCells]
   .have au:s=1:=by
     obtain⟨b,rest,rfl⟩:=Cl hq
     exact(hu [.int .u8 b.toNat] (by simp[zO])).symm
    subst au
    have:=Src.ofString w h1 ⟨q.toArray⟩
    rw[yf]at this
    have hl:(zO q).length=q.length:=by simp[zO]
    exact⟨_,by grind,(IY q).imp λ_ _=>df.dw⟩
  grind
 .rename_i id s1 n lo m
  split at hy
  .rename_i h2
   obtain⟨el,ab⟩:=uw h2
   split at hy
   .rename_i rows s' cJ
    cases hy
    simp only[BS,cJ]at ai
    obtain⟨rfl,hn,aB⟩:=ai
    obtain⟨ad,cap,hv,aC,aj,hc⟩:=r
    have ak:((rows.drop lo).take m).length=m:=by grind
    by_cases h0:m=0
    .subst h0
     have al:(rows.drop lo).take 0= []:=sm
     rw[al,hv]
     cases ad with
     |none=>exact⟨[],Src.ofNil w ab cap,tV⟩
     |some ad=>exact⟨[],(by grind[Src.ofSlice]),tV⟩
    .rcases hc with hd|⟨cC,an,aD,hb⟩
     .grind
     .rw[cJ]at an
      cases an
      obtain⟨b0,c0,dh,dq,aE,af⟩:=hb hn.symm
      clear hb aj
      have aF:0<m:=om
      have ao:lo<c0:=om
      obtain⟨k0,rfl,rfl⟩:=af ao
      clear af
      obtain⟨a2,a6,e1,a7,aG,aq,cQ⟩:=hm.di id _ _ cJ dh
      cases e1
      obtain⟨b',arr,T,fz,e2,hh,_,aH,_,ah⟩:=cQ (Nat.lt_of_le_of_lt (A3 _) ao)
      cases e2
      clear cQ
      have av:s'=s:=by
       have ae:0<((rows.drop lo).take m).length:=om
       have h1:=hu _ (A8 ae)
       grind
      subst av
      have aI:=yB aq
      have aw:=yB hu
      rw[ak]at aw
      have ax:(lo+m)*s'<=rows.length*s':=Ak _ om
      rw[B4]at ax
      have aJ:rows.length*s'<=arr.size:=by
       have:=ah.length
       grind
      have a8: ∀k v y,((rows.drop lo).take m).flatten[k]? =some v->arr[lo*s'+k]? =some y->df w L I J v y:=by
       intro k v y hk aK
       have ar:k<m*s':=by grind
       have hi:k/s'<m:=by rw[C3 hs];omega
       have hj:k%s'<s':=Cr _ hs
       have ay:k=k/s'*s'+k%s':=by rw[Dt];exact(D1 k s').symm
       rw[ay,yQ _ _ hu hj]at hk
       simp only[Ap,aiv hi,C6]at hk
       have ae:lo+k/s'<rows.length:=om
       rw[A0 ae]at hk
       simp only[Ax]at hk
       have hf:rows.flatten[(lo+k/s')*s'+k%s']? =some v:=by
        rw[yQ _ _ aq hj,A0 ae];exact hk
       obtain⟨z,hz,rz⟩:=ah.get _ _ hf
       have aA:(lo+k/s')*s'+k%s'=lo*s'+k:=by grind
       grind
      have az:((arr.toList.drop (lo*s')).take (m*s')).length=m*s':=by grind
      rw[ak,hv]
      have aa:bP (df w L I J) ((rows.drop lo).take m).flatten ((arr.toList.drop (lo*s')).take (m*s')):=by
       grind[bP.of]
      refine⟨_,Src.ofSlice w ab ⟨k0,lo*s',none⟩ m cap _ az (λj u hj=> ?_) (λu a1=> ?_),aa⟩
      .rw[Ap]at hj
       split at hj
       .rw[C6,Aq]at hj
        rw[wE]
        simp only[World.cell?,hh]
        grind
       grind
      .obtain⟨k,hk⟩:=Ar.1 a1
       have ar:k<((rows.drop lo).take m).flatten.length:=by
        grind
       obtain⟨z,hz,rz⟩:=aa.get k _ (A0 ar)
       rw[hk]at hz;cases hz
       exact rz.dG
   grind
  grind
 grind
theorem GQ (ht:P.underlying t=some (.slice el)) (hi:P.info? el=some i) (hs:Src P i.size tx x 0 [] w) (hle:n<=cap):
  (Builtin.append_ #[t,tx] ty #[.slice base n cap,x]).run P w= .ok (.slice base n cap) w:=by
 have hc:=hs.cells
 have hl:=hs.len w
 rcases hs.kind with ⟨e',hk⟩|hk<;>cases base<;>
  simp[Builtin.append_,run_underlying ht,run_underlying hk,sizeOf,typeInfo,hi,hl,hle,hc,storeCells]
theorem EN {b o m:Nat} {news:aj1} {arr:aj3} {T:TypeId} {fz:Nat×Nat} (ht:P.underlying t=some (.slice el)) (hi:P.info? el=some i) (hs:Src P i.size tx x m news w) (hle:n+m<=cap)
  (hh:w.heap[b]? =some (.cells arr T fz)) (hf:rH arr fz) (ab:o+n*i.size+news.length<=arr.size):
  (Builtin.append_ #[t,tx] ty #[.slice (some ⟨b,o,none⟩) n cap,x]).run P w= .ok (.slice (some ⟨b,o,none⟩) (n+m) cap) (yC w b (.cells (yD arr (o+n*i.size) news) T fz)):=by
 have hc:=hs.cells
 have hl:=hs.len w
 have aa:=xP P b (o+n*i.size) T fz news 0 arr w hh hf om hs.one
 rw[D3]at aa
 rcases hs.kind with ⟨e',hk⟩|hk<;>
  simp[Builtin.append_,run_underlying ht,run_underlying hk,sizeOf,typeInfo,hi,hl,hle,hc,wE,aa]
theorem Ql {P:Program} {w:World} {L:Nat->Nat} {rows:List (List V)} {s:Nat} (ht:P.underlying t=some (.slice el)) (hs:0<s) (hu:eI s rows) (r:cF w L (.sl .ro rows) (.slice base rows.length cap)):
  ∃fb,(Builtin.firstCells s rows.length (.slice base rows.length cap)).run P w.drew= .ok fb.toArray w.drew/\bP (cF w L) rows.flatten fb/\fb.length=rows.length*s:=by
 obtain⟨news,h1,h2⟩:=r.src ht hs hu
 exact⟨news,h1.cellsD,h2,h1.newsLen⟩
theorem Ja {z:Value} (hu:P.underlying t=some (.slice el)) (hi:P.info? el=some i) (hz:i.zero=some z) (af:z.cells.size=i.size) (ah:0<i.bytes)
  {k:Nat} {fb news:aj1} {y:Value} (hold:(Builtin.firstCells i.size n (.slice base n cap)).run P w.drew= .ok fb.toArray w.drew) (ad:fb.length=n*i.size) (aa:Src P i.size tx y k news w)
  (ae:cap<n+k) (hbound:(n+k)*i.bytes<=140737488355328):
  ∃(ab:Nat) (arr:aj3),n+k<=ab/\ab*i.size<=arr.size/\arr.toList.take ((n+k)*i.size)=fb++news/\
   (Builtin.append_ #[t,tx] ty #[.slice base n cap,y]).run P w= .ok (.slice (some ⟨w.heap.size,0,none⟩) (n+k) ab) (w.drew.alloc (.cells arr el)):=by
 have hb:n+k<=140737488355328:=Aw (Nat.le_mul_of_pos_right _ ah) hbound
 have hr:=run_append_grow_src (P:=P) w t tx ty el i z hu hi hz base n cap fb hold y k news aa ae om (growslice_fits ae hbound)
 have ai:=grownCap_ge w (n+k) cap el
 refine⟨grownCap w (n+k) cap el,_,ai, ?_, ?_,hr⟩
 .have hm:grownCap w (n+k) cap el*i.size=(n+k)*i.size+(grownCap w (n+k) cap el - (n+k))*i.size:=by
   rw[<-B4];grind
  simp only[Array.size_append,List.size_toArray,An,size_zeroCells,af,ad,aa.newsLen]
  grind
 .rw[Array.toList_append,List.take_append_of_le_length (by simp only[An,ad,aa.newsLen];grind)]
  rw[Aa (by simp only[An,ad,aa.newsLen];grind)]
theorem Mc {rows:List (List V)} {s:Nat} {a0:Option Addr} (hu:P.underlying t=some (.slice el)) (cQ:gW w L I J (.cj rows s) (.slice a0 rows.length cap)):
  ∃fb,(Builtin.firstCells s rows.length (.slice a0 rows.length cap)).run P w.drew= .ok fb.toArray w.drew/\fb.length=rows.length*s/\bP (df w L I J) rows.flatten fb:=by
 obtain⟨a',ai,e,dq,hs,aj,hx⟩:=cQ
 cases e
 by_cases h0:0<cap
 .obtain⟨b,arr,T,fz,rfl,hh,_,ak,_,aa⟩:=hx h0
  have al:rows.length*s<=cap*s:=Ak _ dq
  have hl:(arr.toList.take (rows.length*s)).length=rows.length*s:=by grind
  have ab:=Src.ofSlice (P:=P) (size:=s) w hu ⟨b,0,none⟩ rows.length cap (arr.toList.take (rows.length*s)) hl (by grind[wE,World.cell?]) (λu ad=>by
   obtain⟨k,hk⟩:=Ar.1 ad
   have ae:k<rows.flatten.length:=by
    rw[aa.length];grind
   obtain⟨z,hz,rz⟩:=aa.get k _ (A0 ae)
   rw[hk]at hz;cases hz
   exact rz.dG)
  exact⟨_,ab.cellsD,hl,aa⟩
 .have af:cap=0:=om
  subst af
  have ah:rows= []:=(by grind)
  subst ah
  cases a0 with
  |none=>exact⟨[],(by rfl),sm,tV⟩
  |some a0=>exact⟨[],(Src.ofSlice (P:=P) (size:=s) w hu a0 0 0 [] sm (λj u h=>by simp at h) (λ_ h=>by cases h)).cellsD,sm,tV⟩
theorem Md {rows:List (List V)} {s p:Nat} (h: ∀r∈rows,r.length=s) (h2: ∀r∈r2,r.length=s) (hp:p+r2.length<=rows.length):
  (rows.take p++r2++rows.drop (p+r2.length)).flatten=putCells rows.flatten (p*s) r2.flatten:=by
 have h1: ∀q,q<=rows.length->(rows.take q).flatten=rows.flatten.take (q*s):=λq hq=>by
  have e:rows.flatten=(rows.take q).flatten++(rows.drop q).flatten:=by grind[B8]
  have hl:=yB (rows:=rows.take q) (s:=s) λr hr=>h r (B5 hr)
  grind
 have h3: ∀q,q<=rows.length->(rows.drop q).flatten=rows.flatten.drop (q*s):=λq hq=>by
  have e:rows.flatten=(rows.take q).flatten++(rows.drop q).flatten:=by grind[B8]
  have hl:=yB (rows:=rows.take q) (s:=s) (by grind)
  grind
 have aa:=yB h2
 unfold putCells
 rw[Bu,Bu,h1 p om,h3 _ hp,aa,B4]
theorem Ya {dst:Option Tmp} {pos:String} {dX:Array Edge} {g:Option (Nat×Bool)} (t tx:TypeId) (x y:Operand) (h:dQ c nt e I a w L J):
  fa (sE (eF P t) (dL P tx) I (zG e x) (zG e y)) I (bU P c ⟨dst,.call ⟨.builtin .append, #[x,y], #[t,tx]⟩,ty,pos,dX,g⟩ a w L I J):=by
 have hx:=h.eval x
 have hy:=h.eval y
 unfold sE
 split
 .rename_i s bp r2 aY ax
  obtain⟨el,i,z,hu,hi,hz,rfl,rfl,aJ,hs,aK⟩:=qm aY
  have al: ∀{v w'},(Builtin.append_ #[t,tx] ty #[a.eval x,a.eval y]).run P w= .ok v w'->(execOp a.eval ⟨dst,.call ⟨.builtin .append, #[x,y], #[t,tx]⟩,ty,pos,dX,g⟩).run P w= .ok (.value v) w':=by
   simp_all[execOp,resolve,invoke,builtin]
  have grow: ∀{base:Option Addr} {n cap:Nat} {r1:List (List V)},sD I (zG e y)->a.eval x= .slice base n cap->r1.length=n->cF w L (.sl .ro r1) (.slice base n cap)->eI i.size r1->eI i.size r2->cap<n+r2.length->(n+r2.length)*i.bytes<=140737488355328->
    ∃xs ai,n+r2.length<=ai/\bP (cF w L) (r1++r2).flatten xs/\ ∃arr:aj3,ai*i.size<=arr.size/\(∀(k:Nat) v,xs[k]? =some v->arr[k]? =some v)/\
     (execOp a.eval ⟨dst,.call ⟨.builtin .append, #[x,y], #[t,tx]⟩,ty,pos,dX,g⟩).run P w= .ok (.value (.slice (some ⟨w.heap.size,0,none⟩) (n+r2.length) ai)) (w.drew.alloc (.cells arr el)):=by
   intro base n cap r1 ak hv hn ay aj ae aL hbound
   subst hn
   obtain⟨news,ab,af⟩:=BT (P:=P) h.mem ak ax hy hs ae
   obtain⟨fb,hold,av,aF⟩:=Ql hu hs aj ay
   have hb:r1.length+r2.length<=140737488355328:=Aw (Nat.le_mul_of_pos_right _ aK) hbound
   have hr:=run_append_grow_src (P:=P) w t tx ty el i z hu hi hz base r1.length cap fb hold (a.eval y) r2.length news ab aL om (growslice_fits aL hbound)
   rw[<-hv]at hr
   have aB:=grownCap_ge w (r1.length+r2.length) cap el
   refine⟨fb++news,grownCap w (r1.length+r2.length) cap el,aB, ?_,_, ?_, ?_,al hr⟩
   .rw[Bu];exact av.append af
   .have hm:grownCap w (r1.length+r2.length) cap el*i.size=(r1.length+r2.length)*i.size+(grownCap w (r1.length+r2.length) cap el - (r1.length+r2.length))*i.size:=by
     rw[<-B4];grind
    simp only[Array.size_append,List.size_toArray,An,size_zeroCells,aJ,aF,ab.newsLen]
    grind
   grind
  split
  ·
   rename_i r1 h1
   rw[h1]at hx
   rintro⟨ak,hbound,aj,ae⟩
   have aP:cF w L (.sl .full r1) (a.eval x):=hx
   obtain⟨base,cap,hv,aG,aZ⟩:=aP.len
   have dq:=aZ rfl
   subst dq
   by_cases h0:r2= []
   .subst h0
    obtain⟨news,ab,af⟩:=BT (P:=P) h.mem ak ax hy hs ae
    have a6:news= []:=As (by rw[ab.newsLen];simp)
    subst a6
    have hr:=GQ (P:=P) (ty:=ty) hu hi ab aG (base:=base)
    rw[<-hv]at hr
    have aa:=h.mem.own (s:=i.size) (n:=r1.length) (a:=base) hs
    refine⟨_,w,L,_,.inl (al hr),by simpa using aa,Le.refl _ _,Ext.push _ _ h.mem.len _ _, ?_⟩
    rw[Ay]
    refine⟨cF.lg aP,r1.length,i.size, ?_,om,λ_=> ?_,aj⟩
    .simp
    .rw[<-h.mem.len,hv];simp
   .have an:0<r2.length:=(by grind)
    obtain⟨xs,ai,aB,af,arr,az,aH,a7⟩:=grow ak hv rfl (by grind[cF.lg]) aj ae om hbound
    have hd:=h.mem.drew
    have hlen:(r1++r2).length=r1.length+r2.length:=sm
    obtain⟨aa,hle,aw⟩:=hd.1.pL (s:=i.size) (cap:=ai) (rows:=r1++r2) (T:=el) hs (sv aj ae) (af.imp (by grind[cF.mono])) om az aH
    rw[hlen]at aa aw
    refine⟨_,_,_,_,.inl a7,aa,hd.2.trans ?_,Ext.push _ _ h.mem.len _ _, ?_⟩
    .grind
    .refine⟨aw,r1.length+r2.length,i.size,sm,om,λ_=> ?_,sv aj ae⟩
     rw[<-h.mem.len];simp
  .rename_i id r1 h1
   rw[h1]at hx
   split
   .rename_i n s' cJ
    rintro⟨ak,rfl,rfl,hbound,ae⟩
    obtain⟨ay,n',s2,aQ,bn,dh,aj⟩:=hx
    rw[cJ]at aQ
    cases aQ
    have aC:=dh rfl
    obtain⟨base,cap,hv,aG,_⟩:=ay.len
    by_cases h0:r2= []
    .subst h0
     obtain⟨news,ab,af⟩:=BT (P:=P) h.mem ak ax hy hs ae
     have a6:news= []:=As (by rw[ab.newsLen];simp)
     subst a6
     have hr:=GQ (P:=P) (ty:=ty) hu hi ab aG (base:=base)
     rw[<-hv]at hr
     have au:I.set id (.app (r1.length+([]:List (List V)).length) i.size)=I:=(by grind[yN])
     rw[au]
     refine⟨_,w,L,J,.inl (al hr),h.mem,Le.refl _ _,Ext.refl _ _, ?_⟩
     rw[Ay]
     exact⟨ay,r1.length,i.size,cJ,om,dh,aj⟩
    .have an:0<r2.length:=(by grind)
     have hlen:(r1++r2).length=r1.length+r2.length:=sm
     have a8:id<I.length:=(by grind)
     by_cases aq:r1.length+r2.length<=cap
     .obtain⟨a',aE,e1,ba,aR,cQ⟩:=h.mem.di id _ _ cJ aC
      rw[hv]at e1;cases e1
      obtain⟨b,o',arr,T,fz,rfl,hh,hf,az,hL⟩:=cQ om
      obtain⟨news,ab,af⟩:=BT (P:=P) h.mem ak ax hy hs ae
      rw[hv]at ay aC
      obtain⟨bo,T',bq,bb,bc,aA,aa,hle,ah,aw⟩:=h.mem.GJ cJ aC rfl ay aj ae af an aq
      have hr:=EN (P:=P) (ty:=ty) hu hi ab aq bb bc aA
      rw[<-hv]at hr
      refine⟨_,_,_,_,(by grind),aa,hle,ah,aw,r1.length+r2.length,i.size, ?_,om,λ_=> ?_,sv aj ae⟩
      all_goals grind
     .obtain⟨xs,ai,aB,af,arr,az,aH,a7⟩:=grow ak hv rfl (by grind) aj ae om hbound
      have hd:=h.mem.drew
      obtain⟨aa,hle,ah,aw⟩:=hd.1.BM (cap:=ai) (rows:=r1++r2) (arr:=arr) (T:=el) cJ aC hs (sv aj ae) (af.imp (by grind[cF.mono])) om om az aH
      rw[hlen]at aa ah aw hle
      refine⟨_,_,_,_,.inl a7,aa,hd.2.trans hle,ah,aw,r1.length+r2.length,i.size, ?_,om,λ_=> ?_,sv aj ae⟩
      .grind
      .rw[Bj (by rw[h.mem.len];exact a8)];rfl
   trivial
  .rename_i id s1 n lo m h1
   rw[h1]at hx
   obtain⟨ad,cap,hv,aS,an,hc⟩:=hx
   split
   .rename_i rows s' cJ
    have cur:rows.length=n-> ∃b c0,J[id]? =some (.slice b n c0)/\cap=c0 - lo/\lo<=c0/\(lo<c0-> ∃k,b=some ⟨k,0,none⟩/\ad=some ⟨k,lo*s1,none⟩):=(by grind)
    have a8:id<I.length:=(by grind)
    split
    .rename_i bd
     rintro⟨ak,rfl,rfl,hn,ae⟩
     obtain⟨b0,c0,dh,rfl,aF,ao⟩:=cur hn
     obtain⟨a2,aE,e1,aT,aR,a1,cQ⟩:=h.mem.di id _ _ cJ dh
     cases e1
     clear cQ cur hc
     obtain⟨news,ab,af⟩:=BT (P:=P) h.mem ak ax hy hs ae
     by_cases h0:r2= []
     .subst h0
      have a6:news= []:=As (by rw[ab.newsLen];simp)
      subst a6
      have hr:=GQ (P:=P) (ty:=ty) hu hi ab aS.1 (base:=ad)
      rw[<-hv]at hr
      have au:I.set id (.cj (rows.take (lo+m)++ []++rows.drop (lo+m+([]:List (List V)).length)) i.size)=I:=(by simp_all[yN])
      rw[au]
      refine⟨_,w,L,J,.inl (al hr),h.mem,Le.refl _ _,Ext.refl _ _, ?_⟩
      exact⟨ad,c0 - lo,hv,aS,an,(by grind)⟩
     .have br:0<r2.length:=(by grind)
      clear an
      have bf:lo<c0:=om
      obtain⟨k0,rfl,rfl⟩:=ao bf
      clear ao
      have ar:(rows.take (lo+m)++r2++rows.drop (lo+m+r2.length)).length=rows.length:=by simp;omega
      have aU:(lo+m)*i.size<=rows.length*i.size:=Ak _ om
      obtain⟨arr,T,fz,hh,hf,aA,aa,hle,ah⟩:=h.mem.gi (off:=(lo+m)*i.size) (vs:=r2.flatten) (cC:=rows.take (lo+m)++r2++rows.drop (lo+m+r2.length)) cJ dh om
       (af.imp λ_ _=>df.dw) aU (λr hr=>by
        rcases Af.1 hr with hr|hr
        .rcases Af.1 hr with hr|hr
         .grind
         .exact ae r hr
        grind) (Md a1 ae om) om om
      have au:J.set id (.slice (some ⟨k0,0,none⟩) (rows.take (lo+m)++r2++rows.drop (lo+m+r2.length)).length c0)=J:=yN _ _ _ (by grind)
      rw[au]at aa ah
      have hr:=EN (P:=P) (ty:=ty) (o:=lo*i.size) (n:=m) (cap:=c0 - lo) hu hi ab om hh hf (by grind)
      rw[<-hv,<-B4]at hr
      refine⟨_,_,_,_,.inl (al hr),aa,hle,ah, ?_⟩
      exact⟨_,c0 - lo,rfl,om,sm,(by grind)⟩
    .rename_i bd
     rintro⟨ak,rfl,rfl,hn,ae,rfl,rfl,hbound⟩
     obtain⟨b0,c0,dh,bt,aF,ao⟩:=cur hn
     have aV:c0=cap:=om
     subst aV
     have aW:=h.mem.di id _ _ cJ dh
     obtain⟨a2,aE,e1,aT,aR,a1,cQ⟩:=aW
     cases e1
     clear cQ cur hc an
     obtain⟨news,ab,af⟩:=BT (P:=P) h.mem ak ax hy hs ae
     have ar:(rows++r2).length=rows.length+r2.length:=sm
     by_cases aq:rows.length+r2.length<=c0
     .have bg:0<c0:=om
      obtain⟨k0,rfl,rfl⟩:=ao bg
      clear ao
      obtain⟨arr,T,fz,hh,hf,aA,aa,hle,ah⟩:=h.mem.gi (off:=rows.length*i.size) (vs:=r2.flatten) (cC:=rows++r2) cJ dh om
       (af.imp λ_ _=>df.dw) om (sv a1 ae) (by
        unfold putCells
        rw[Bu,Aa (by rw[yB a1];omega),Bp (by rw[yB a1];omega),Ay]) om om
      rw[Cv]at hv
      have hr:=EN (P:=P) (ty:=ty) (o:=0) (n:=rows.length) (cap:=c0) hu hi ab aq hh hf om
      rw[<-hv,Ad]at hr
      rw[ar]at aa ah
      refine⟨_,_,_,_,.inl (al hr),aa,hle,ah, ?_⟩
      exact⟨_,c0,rfl,om,sm,.inr ⟨_,Bj a8,om,(by grind)⟩⟩
     .obtain⟨fb,hold,aX,av⟩:=Mc (P:=P) hu (h.mem.di id _ _ cJ dh)
      have bh:ad=b0\/c0=0:=by
       grind
      clear ao
      have aI:(Builtin.firstCells i.size rows.length (.slice ad rows.length c0)).run P w.drew= .ok fb.toArray w.drew:=by
       rcases bh with rfl|rfl
       .omega
       .have bj:rows= []:=(by grind)
        subst bj
        have bk:fb= []:=As (by grind)
        subst bk
        cases ad with
        |none=>rfl
        |some a0=>exact(Src.ofSlice (P:=P) (size:=i.size) w hu a0 0 0 [] sm sm sm).cellsD
      obtain⟨ai,arr,aB,az,bm,hr⟩:=Ja (P:=P) (w:=w) (tx:=tx) (ty:=ty) hu hi hz aJ aK aI aX ab om hbound
      rw[<-hv]at hr
      have hd:=h.mem.drew
      have aD:bP (df w.drew L I J) (rows++r2).flatten (arr.toList.take ((rows++r2).length*i.size)):=by
       rw[ar,bm,Bu]
       exact(av.imp λ_ _=>df.mono hd.2 (Ext.refl _ _)).append (af.imp λ_ _ q=>df.dw (q.mono hd.2))
      obtain⟨aa,hle,ah⟩:=hd.1.pM (cC:=rows++r2) (cap:=ai) (T:=el) cJ dh hs (sv a1 ae) aD om om az
      rw[ar]at aa ah
      refine⟨_,_,_,_,.inl (al hr),aa,hd.2.trans hle,ah, ?_⟩
      exact⟨_,ai,rfl,om,sm,.inr ⟨_,Bj a8,om,λ_=>⟨_,ai,Bj (by rw[h.mem.len];exact a8),rfl,om,sm⟩⟩⟩
   trivial
  trivial
 trivial
theorem Yb {dst:Option Tmp} {pos:String} {dX:Array Edge} {g:Option (Nat×Bool)} (t tx:TypeId) (x y:Operand) (h:dQ c nt e I a w L J):
  fa (sG (eF P t) (dL P tx) I (zG e x) (zG e y)) I (bU P c ⟨dst,.call ⟨.builtin .append, #[x,y], #[t,tx]⟩,ty,pos,dX,g⟩ a w L I J):=by
 have hx:=h.eval x
 have hy:=h.eval y
 unfold sG
 split
 .rename_i id s1 n lo m h1
  split
  .rename_i s aT r2 a7 a1
   obtain⟨el,i,z,hu,hi,hz,rfl,rfl,a8,hs,aA⟩:=qm a7
   have ai: ∀{v w'},(Builtin.append_ #[t,tx] ty #[a.eval x,a.eval y]).run P w= .ok v w'->(execOp a.eval ⟨dst,.call ⟨.builtin .append, #[x,y], #[t,tx]⟩,ty,pos,dX,g⟩).run P w= .ok (.value v) w':=by
    intro v w' hr
    simp[execOp,resolve,invoke,builtin,hr]
   rw[h1]at hx
   obtain⟨ad,cap,hv,aG,au,hc⟩:=hx
   split
   .rename_i rows s' cJ
    have cur:rows.length=n-> ∃b c0,J[id]? =some (.slice b n c0)/\cap=c0 - lo/\lo<=c0/\(lo<c0-> ∃k,b=some ⟨k,0,none⟩/\ad=some ⟨k,lo*s1,none⟩):=λhn=>by
     rcases hc with hd|⟨cC,aH,bg,hb⟩
     .rw[cJ]at hd;cases hd
     .rw[cJ]at aH;cases aH;exact hb hn.symm
    have aw:id<I.length:=(A4.1 cJ).1
    split
    .rename_i aI
     rintro⟨ax,rfl,rfl,hn,ak⟩
     obtain⟨b0,c0,dh,rfl,ay,af⟩:=cur hn
     obtain⟨a2,aJ,e1,aK,aU,ao,cQ⟩:=h.mem.di id _ _ cJ dh
     cases e1
     clear cQ cur hc
     obtain⟨news,ah,al⟩:=Qk (P:=P) h.mem ax a1 hy hs ak
     by_cases h0:r2= []
     .subst h0
      have aB:news= []:=As (by rw[ah.newsLen];simp)
      subst aB
      have hr:=GQ (P:=P) (ty:=ty) hu hi ah aG.1 (base:=ad)
      rw[<-hv]at hr
      have az:I.set id (.cj (rows.take (lo+m)++ []++rows.drop (lo+m+([]:List (List V)).length)) i.size)=I:=yN _ _ _ (by simp[cJ])
      rw[az]
      refine⟨_,w,L,J,.inl (ai hr),h.mem,Le.refl _ _,Ext.refl _ _, ?_⟩
      exact⟨ad,c0 - lo,hv,aG,au,.inr ⟨rows,cJ,Cd hn.symm,λ_=>⟨b0,c0,dh,rfl,ay,af⟩⟩⟩
     .have bh:0<r2.length:=List.length_pos_iff.2 h0
      clear au
      have aV:lo<c0:=by clear af;omega
      obtain⟨k0,rfl,rfl⟩:=af aV
      clear af
      have aa:(rows.take (lo+m)++r2++rows.drop (lo+m+r2.length)).length=rows.length:=by simp;omega
      have aL:(lo+m)*i.size<=rows.length*i.size:=Ak _ om
      obtain⟨arr,T,fz,hh,hf,av,ab,hle,ae⟩:=h.mem.gi (off:=(lo+m)*i.size) (vs:=r2.flatten) (cC:=rows.take (lo+m)++r2++rows.drop (lo+m+r2.length)) cJ dh om
       al aL (λr hr=>by
        rcases Af.1 hr with hr|hr
        .rcases Af.1 hr with hr|hr
         .exact ao r (B5 hr)
         .exact ak r hr
        .exact ao r (Bx hr)) (Md ao ak om) (by rw[aa];exact A7 _) (by rw[aa];omega)
      have az:J.set id (.slice (some ⟨k0,0,none⟩) (rows.take (lo+m)++r2++rows.drop (lo+m+r2.length)).length c0)=J:=yN _ _ _ (by rw[aa,hn];exact dh)
      rw[az]at ab ae
      have hr:=EN (P:=P) (ty:=ty) (o:=lo*i.size) (n:=m) (cap:=c0 - lo) hu hi ah om hh hf (by rw[B4]at av;exact av)
      rw[<-hv,<-B4]at hr
      refine⟨_,_,_,_,.inl (ai hr),ab,hle,ae, ?_⟩
      exact⟨_,c0 - lo,rfl,om,λ_=>⟨_,_,rfl⟩,.inr ⟨_,Bj aw,by rw[aa];omega,λ_=>⟨_,c0,dh,rfl,ay,λ_=>⟨k0,rfl,rfl⟩⟩⟩⟩
    .rename_i aI
     rintro⟨ax,rfl,rfl,hn,ak,rfl,rfl,hbound⟩
     obtain⟨b0,c0,dh,aW,ay,af⟩:=cur hn
     have aP:c0=cap:=by rw[aW,Nat.sub_zero]
     subst aP
     have aQ:=h.mem.di id _ _ cJ dh
     obtain⟨a2,aJ,e1,aK,aU,ao,cQ⟩:=aQ
     cases e1
     clear cQ cur hc au
     obtain⟨news,ah,al⟩:=Qk (P:=P) h.mem ax a1 hy hs ak
     have aa:(rows++r2).length=rows.length+r2.length:=sm
     by_cases aq:rows.length+r2.length<=c0
     .have aX:0<c0:=by clear af;rw[Ad]at aI;omega
      obtain⟨k0,rfl,rfl⟩:=af aX
      clear af
      obtain⟨arr,T,fz,hh,hf,av,ab,hle,ae⟩:=h.mem.gi (off:=rows.length*i.size) (vs:=r2.flatten) (cC:=rows++r2) cJ dh om
       al (A7 _) (sv ao ak) (by
        unfold putCells
        rw[Bu,Aa (by rw[yB ao];exact A7 _),Bp (by rw[yB ao];omega),Ay]) (by rw[aa];omega) (by rw[aa];exact aq)
      rw[Cv]at hv
      have hr:=EN (P:=P) (ty:=ty) (o:=0) (n:=rows.length) (cap:=c0) hu hi ah aq hh hf (by rw[Ad];exact av)
      rw[<-hv,Ad]at hr
      rw[aa]at ab ae
      refine⟨_,_,_,_,.inl (ai hr),ab,hle,ae, ?_⟩
      exact⟨_,c0,rfl,⟨aq,om⟩,λ_=>⟨_,_,rfl⟩,.inr ⟨_,Bj aw,by rw[aa];exact A7 _,λ_=>⟨_,c0,Bj (by rw[h.mem.len];exact aw),rfl,A3 _,λ_=>⟨k0,rfl,by rw[Cv]⟩⟩⟩⟩
     .obtain⟨fb,hold,a6,ar⟩:=Mc (P:=P) hu (h.mem.di id _ _ cJ dh)
      have aY:ad=b0\/c0=0:=by
       by_cases h0:0<c0
       .obtain⟨k0,rfl,rfl⟩:=af h0
        exact .inl (by rw[Cv])
       .exact .inr (Nat.eq_zero_of_not_pos h0)
      clear af
      have aC:(Builtin.firstCells i.size rows.length (.slice ad rows.length c0)).run P w.drew= .ok fb.toArray w.drew:=by
       rcases aY with rfl|rfl
       .exact hold
       .have aZ:rows= []:=As om
        subst aZ
        have ba:fb= []:=As (by rw[a6];simp)
        subst ba
        cases ad with
        |none=>exact(Src.ofNil (P:=P) (size:=i.size) w hu 0).cellsD
        |some a0=>exact(Src.ofSlice (P:=P) (size:=i.size) w hu a0 0 0 [] sm (λj u h=>by simp at h) (λ_ h=>by cases h)).cellsD
      obtain⟨aj,arr,aD,aE,aF,hr⟩:=Ja (P:=P) (w:=w) (tx:=tx) (ty:=ty) hu hi hz a8 aA aC a6 ah om hbound
      rw[<-hv]at hr
      have hd:=h.mem.drew
      have an:bP (df w.drew L I J) (rows++r2).flatten (arr.toList.take ((rows++r2).length*i.size)):=by
       rw[aa,aF,Bu]
       exact(ar.imp λ_ _=>df.mono hd.2 (Ext.refl _ _)).append (al.imp λ_ _=>df.mono hd.2 (Ext.refl _ _))
      obtain⟨ab,hle,ae⟩:=hd.1.pM (cC:=rows++r2) (cap:=aj) (T:=el) cJ dh hs (sv ao ak) an om om aE
      rw[aa]at ab ae
      refine⟨_,_,_,_,.inl (ai hr),ab,hd.2.trans hle,ae, ?_⟩
      exact⟨_,aj,rfl,⟨aD,om⟩,λ_=>⟨_,_,rfl⟩,.inr ⟨_,Bj aw,by rw[aa];exact A7 _,λ_=>⟨_,aj,Bj (by rw[h.mem.len];exact aw),rfl,A3 _,λ_=>⟨_,rfl,by rw[Cv];rfl⟩⟩⟩⟩
   .trivial
  .trivial
 split
 .rename_i s aT r2 a7 a1
  obtain⟨el,i,z,hu,hi,hz,rfl,rfl,a8,hs,aA⟩:=qm a7
  have ai: ∀{v w'},(Builtin.append_ #[t,tx] ty #[a.eval x,a.eval y]).run P w= .ok v w'->(execOp a.eval ⟨dst,.call ⟨.builtin .append, #[x,y], #[t,tx]⟩,ty,pos,dX,g⟩).run P w= .ok (.value v) w':=by
   intro v w' hr
   simp[execOp,resolve,invoke,builtin,hr]
  split
  .rename_i r1 h1
   rw[h1]at hx
   rintro⟨ax,hbound,aR,ak,bb⟩
   have aS:cF w L (.sl .full r1) (a.eval x):=hx
   obtain⟨base,cap,hv,bc,bd⟩:=aS.len
   have dq:=bd rfl
   subst dq
   obtain⟨news,ah,al⟩:=BT (P:=P) h.mem ax a1 hy hs ak
   by_cases h0:r2= []
   .have bf:=bb h0
    subst h0 bf
    have aB:news= []:=As (by rw[ah.newsLen];simp)
    subst aB
    have hr:=GQ (P:=P) (ty:=ty) hu hi ah bc (base:=base)
    rw[<-hv]at hr
    have ab:=h.mem.mc (s:=i.size) (a:=base) hs
    refine⟨_,w,L,_,.inl (ai hr),by simpa using ab,Le.refl _ _,Ext.push _ _ h.mem.len _ _, ?_⟩
    refine⟨base,0,hv,⟨A7 _,A7 _⟩,λq=>by simp at q,.inr ⟨[],sm,sm,λ_=>⟨base,0, ?_,rfl,A7 _,λq=>om⟩⟩⟩
    rw[<-h.mem.len];simp
   .have au:0<r2.length:=List.length_pos_iff.2 h0
    obtain⟨fb,hold,ar,ay⟩:=Ql hu hs aR (show cF w L (.sl .ro r1) (.slice base r1.length r1.length) by rw[<-hv];exact cF.lg aS)
    obtain⟨aj,arr,aD,aE,aF,hr⟩:=Ja (P:=P) (w:=w) (tx:=tx) (ty:=ty) hu hi hz a8 aA hold ay ah om hbound
    rw[<-hv]at hr
    have hd:=h.mem.drew
    have aa:(r1++r2).length=r1.length+r2.length:=sm
    have an:bP (df w.drew L I J) (r1++r2).flatten (arr.toList.take ((r1++r2).length*i.size)):=by
     rw[aa,aF,Bu]
     exact(ar.imp λ_ _ q=>df.dw (q.mono hd.2)).append (al.imp λ_ _ q=>df.dw (q.mono hd.2))
    obtain⟨ab,hle,ae⟩:=hd.1.mb (cap:=aj) (T:=el) hs (sv aR ak) an om aE
    rw[aa]at ab ae
    refine⟨_,_,_,_,.inl (ai hr),ab,hd.2.trans hle,ae, ?_⟩
    refine⟨_,aj,rfl,⟨aD,om⟩,λ_=>⟨_,_,rfl⟩,.inr ⟨r1++r2,sm,by rw[aa];exact A7 _,λ_=>⟨_,aj, ?_,rfl,A3 _,λ_=>⟨_,rfl,by rw[Cv]⟩⟩⟩⟩
    rw[<-h.mem.len];simp
  .trivial
 .trivial
end
section
variable {P:Program} {c:Ctx} {nt:Nat} {e:Env} {I:St} {a:Act} {w:World} {L:Nat->Nat} {J:aj1} {o:Oper}
variable {dst:Option Tmp}{ty:TypeId}{dX:Array Edge}{g:Option (Nat×Bool)}{n:Nat}{cap:Nat}
theorem Qm (arr:aj3) (k:Nat): ∀(vs:aj1) (j:Nat) (cur:aj3),(vs.zipIdx j).foldl (λcs (p:Value×Nat)=>cs.setIfInBounds (k+p.2) p.1) cur=yD cur (k+j) vs
 | [],_,_=>rfl
 |v::vs,j,cur=>by
  rw[List.zipIdx_cons,Bn,Qm arr k vs (j+1)]
  rfl
theorem Jb {pl:Nat->Option (Nat×Nat)} {arr:aj3} {i off s:Nat} {v:Value} {rest:List (Nat×Value)} (hp:pl i=some (off,s)) (hs:v.cells.size=s) (hle:off+s<=arr.size):
  Instr.fill pl arr ((i,v)::rest)=Instr.fill pl (yD arr off v.cells.toList) rest:=by
 rw[Instr.fill]
 simp only[hp]
 have h1:(v.cells.size≠s||decide (off+v.cells.size>arr.size))=false:=by grind
 rw[aiu (by simp[hs];omega)]
 congr 1
 rw[<-Array.foldl_toList,Array.toList_zipIdx]
 exact Qm arr off v.cells.toList 0 arr
def sH:Nat->List (Nat×V)->Bool
 |_,[]=>true
 |k,(i,v)::r=>i==k&&nb v&&sH (k+1) r
def oj (v:V):Bool:=(xO v).all pN
def rK (v:V):List V:=(xO v).map k5
def vH (es:aj5) (len:Nat) (parts:List (Nat×V)):R:=
 match es with
 |some s=>if sH 0 parts=true/\parts.length=len then .ee ((∀p∈parts,oj p.2=true/\(xO p.2).length=s)/\len*s<=16777216/\0<s) (.sl .full (parts.map λp=>rK p.2))else .fail
 |none=> .fail
theorem bP.kG {U J γ:Type} {R:γ->J->Prop} {f:U->γ}: ∀{l:List U} {m:List J},bP (λx y=>R (f x) y) l m->bP R (l.map f) m
 | [],[],_=>trivial
 |_::_,_::_,h=>⟨h.1,bP.kG h.2⟩
 | [],_::_,h=>h.elim
 |_::_,[],h=>h.elim
theorem Yc {v:V} {x:Value} (r:bP (df w L I J) (xO v) x.cells.toList) (hp:oj v):bP (cF w L) (rK v) x.cells.toList:=by
 unfold oj at hp
 unfold rK
 refine bP.kG ?_
 revert r hp
 generalize xO v=cs
 generalize x.cells.toList=xs
 intro r hp
 induction cs generalizing xs with
 |nil=>cases xs<;>simpa
 |cons p cs ih=>cases xs with
  |nil=>simpa
  |cons y ys=>
   simp at hp
   exact⟨df.k5 r.1 hp.1,ih _ r.2 (by grind)⟩
theorem Qn {s:Nat}: ∀(parts:List (Nat×V)) (aa:List (Nat×Value)) (k:Nat) (arr:aj3) (done:List V),sH k parts=true->(∀p∈parts,oj p.2=true/\(xO p.2).length=s)->
  bP (λp q=>p.1=q.1/\dD w L I J p.2 q.2) parts aa->arr.size=(k+parts.length)*s->done.length=k*s->bP (cF w L) done (arr.toList.take (k*s))->
  ∃ab,Instr.fill (λi=>some (i*s,s)) arr aa=some ab/\ab.size=arr.size/\bP (cF w L) (done++(parts.map λp=>rK p.2).flatten) ab.toList
 | [],[],k,arr,done,_,_,_,af,hd,ae=>by
  refine⟨arr,rfl,rfl, ?_⟩
  grind[Aa]
 |(i,v)::parts,(i',x)::aa,k,arr,done,ho,hp,⟨⟨hi,hr⟩,ah⟩,af,hd,ae=>by
  simp only[sH,Ab,aiB]at ho
  obtain⟨⟨rfl,ai⟩,ho⟩:=ho
  have aj:=hp (i,v) sm
  simp only at hi aj
  subst hi
  have ad:=BN hr ai
  have hlen:=ad.length
  simp only[Cq]at hlen
  have an:x.cells.size=s:=om
  simp only[Ah]at af
  have hm:(i+(parts.length+1))*s=i*s+s+parts.length*s:=by grind
  have aq:(i+1)*s=i*s+s:=by grind
  rw[Jb (s:=s) rfl an om]
  have ak:=Yc ad aj.1
  have ar:(rK v).length=s:=by grind[rK]
  obtain⟨ab,h1,h2,h3⟩:=Qn parts aa (i+1) (yD arr (i*s) x.cells.toList) (done++rK v) ho (λp ao=>hp p (by simp[ao])) ah (by rw[yJ,af];grind) (by grind) (by
   have al:i*s+x.cells.toList.length<=arr.size:=by grind
   have e1:(yD arr (i*s) x.cells.toList).toList.take ((i+1)*s)=arr.toList.take (i*s)++x.cells.toList:=by
    apply Bi
    intro j
    rw[Ap]
    have au:(List.take (i*s) arr.toList).length=i*s:=by grind
    by_cases hj:j<(i+1)*s
    .rw[aiv hj,Aq,wO _ _ _ _ al]
     grind
    grind
   rw[e1]
   exact ae.append ak)
  grind[yJ]
 | [],_::_,_,_,_,_,_,h,_,_,_=>h.elim
 |_::_,[],_,_,_,_,_,h,_,_,_=>h.elim
theorem Qo {s:Nat}: ∀(parts:List (Nat×V)) (aa:List (Nat×Value)) (k:Nat) (arr:aj3) (done:List V),sH k parts=true->(∀p∈parts,(xO p.2).length=s)->
  bP (λp q=>p.1=q.1/\dD w L I J p.2 q.2) parts aa->arr.size=(k+parts.length)*s->done.length=k*s->bP (df w L I J) done (arr.toList.take (k*s))->
  ∃ab,Instr.fill (λi=>some (i*s,s)) arr aa=some ab/\ab.size=arr.size/\bP (df w L I J) (done++(parts.map λp=>xO p.2).flatten) ab.toList
 | [],[],k,arr,done,_,_,_,af,hd,ae=>by
  refine⟨arr,rfl,rfl, ?_⟩
  grind[Aa]
 |(i,v)::parts,(i',x)::aa,k,arr,done,ho,hp,⟨⟨hi,hr⟩,ah⟩,af,hd,ae=>by
  simp only[sH,Ab,aiB]at ho
  obtain⟨⟨rfl,ai⟩,ho⟩:=ho
  have aj:=hp (i,v) sm
  simp only at hi aj
  subst hi
  have ad:=BN hr ai
  have hlen:=ad.length
  simp only[Cq]at hlen
  have an:x.cells.size=s:=om
  simp only[Ah]at af
  have hm:(i+(parts.length+1))*s=i*s+s+parts.length*s:=by grind
  have aq:(i+1)*s=i*s+s:=by grind
  rw[Jb (s:=s) rfl an om]
  have ak:=ad
  have ar:(xO v).length=s:=aj
  obtain⟨ab,h1,h2,h3⟩:=Qo parts aa (i+1) (yD arr (i*s) x.cells.toList) (done++xO v) ho (λp ao=>hp p (by simp[ao])) ah (by rw[yJ,af];grind) (by grind) (by
   have al:i*s+x.cells.toList.length<=arr.size:=by grind
   have e1:(yD arr (i*s) x.cells.toList).toList.take ((i+1)*s)=arr.toList.take (i*s)++x.cells.toList:=by
    apply Bi
    intro j
    rw[Ap]
    have au:(List.take (i*s) arr.toList).length=i*s:=by grind
    by_cases hj:j<(i+1)*s
    .rw[aiv hj,Aq,wO _ _ _ _ al]
     grind
    grind
   rw[e1]
   exact ae.append ak)
  grind[yJ]
 | [],_::_,_,_,_,_,_,h,_,_,_=>h.elim
 |_::_,[],_,_,_,_,_,h,_,_,_=>h.elim
theorem bP.iq (h:dQ c nt e I a w L J): ∀(ps:List (Nat×Operand)),bP (λp q=>p.1=q.1/\dD w L I J p.2 q.2) (ps.map λp=>(p.1,zG e p.2)) (ps.map λp=>(p.1,a.eval p.2))
 | []=>trivial
 |p::ps=>⟨⟨rfl,h.eval p.2⟩,bP.iq h ps⟩
theorem Yd {pos:String} (t:TypeId) (len:Nat) (ps:Array (Nat×Operand)) (h:dQ c nt e I a w L J):
  fa (vH ((eF P t).map (·.1)) len (ps.toList.map λp=>(p.1,zG e p.2))) I (bU P c ⟨dst,.buildSlice t len ps,ty,pos,dX,g⟩ a w L I J):=by
 unfold vH
 split
 .rename_i s al
  split
  .rename_i ae
   obtain⟨ho,hlen⟩:=ae
   rintro⟨hp,an,hs⟩
   obtain⟨el,aj⟩: ∃b,eF P t=some (s,b):=by
    simp_all
   obtain⟨el,i,z,hu,hi,hz,rfl,_,ao,_,_⟩:=qm aj
   have ab:=bP.iq h ps.toList
   have af: ∀aa,Instr.fill (λk=>some (k*i.size,i.size)) ((Array.range (len*i.size)).map (z.cells[· %z.cells.size]!)) (ps.map λ(k,x)=>(k,a.eval x)).toList=some aa->
     (Instr.buildSlice t len (ps.map λ(k,x)=>(k,a.eval x))).run P w= .ok (.slice (some ⟨w.heap.size,0,none⟩) len len) (w.alloc (.cells aa el)):=by
    intro aa hf
    by_cases h0:len*i.size=0
    .have aq:len=0:=by
      rcases Nat.mul_eq_zero.1 h0 with h|h
      all_goals omega
     simp_all[Array.eq_empty_of_size_eq_zero,Instr.buildSlice,run_underlying,sizeOf,typeInfo,newRow]
    grind[run_buildSlice]
   have ah:(ps.map λ(k,x)=>(k,a.eval x)).toList=ps.toList.map λp=>(p.1,a.eval p.2):=sm
   obtain⟨aa,hf,ar,ad⟩:=Qn (s:=i.size) _ _ 0 ((Array.range (len*i.size)).map (z.cells[· %z.cells.size]!)) [] ho hp ab (by grind) sm (by simp[bP])
   rw[<-ah]at hf
   have hr:=af aa hf
   have ak:((ps.toList.map λp=>(p.1,zG e p.2)).map λp=>rK p.2).length=len:=by grind
   obtain⟨h1,h2⟩:=h.mem.alloc (.cells aa el) (len*i.size)
   refine⟨.slice (some ⟨w.heap.size,0,none⟩) len len,_,_,J,(by simp_all[execOp]),h1,h2,Ext.refl _ _, ?_⟩
   have ai:cF (w.alloc (.cells aa el)) (xM L w.heap.size (len*i.size)) (.sl .full ((ps.toList.map λp=>(p.1,zG e p.2)).map λp=>rK p.2)) (.slice (some ⟨w.heap.size,0,none⟩) ((ps.toList.map λp=>(p.1,zG e p.2)).map λp=>rK p.2).length len):=by
    refine .kF (xs:=aa.toList) hs (λr hr=> ?_) (by grind[xM]) om sm om (yL _ _) sm ?_
    .obtain⟨p,au,rfl⟩:=Ac.1 hr
     grind[rK]
    .simp only[C7]at ad
     exact ad.imp (by grind[cF.mono])
   rw[ak]at ai
   trivial
  trivial
 trivial
def eY (P:Program) (t:TypeId):Option (List (Nat×Nat)):=
 match P.underlying t with
 |some (.struct fs)=>fs.toList.mapM λf=>(P.info? f.type).map λi=>(f.offset,i.size)
 |some (.array n el)=>(P.info? el).map λi=>(List.range n).map λk=>(k*i.size,i.size)
 |_=>none
def EO (pl:List (Nat×Nat)) (cells:List V):List (Nat×V)->Option (List V)
 | []=>some cells
 |(i,v)::r=>(match pl[i]? with
  |some (off,s)=>if nb v=true/\(xO v).length=s/\off+s<=cells.length then EO pl (putCells cells off (xO v)) r else none
  |none=>none)
def yh (zs:Option (List V)) (pl:Option (List (Nat×Nat))) (parts:List (Nat×V)):R:=
 match zs,pl with
 |some z,some pl=>(match EO pl z parts with|some cs=> .ok (.agg cs)|none=> .fail)
 |_,_=> .fail
theorem Me {pl:List (Nat×Nat)} {ah:Nat->Option (Nat×Nat)} (ai: ∀i x,pl[i]? =some x->ah i=some x): ∀(parts:List (Nat×V)) (aa:List (Nat×Value)) (cells cs:List V) (arr:aj3),EO pl cells parts=some cs->
  bP (λp q=>p.1=q.1/\dD w L I J p.2 q.2) parts aa->bP (df w L I J) cells arr.toList-> ∃ae,Instr.fill ah arr aa=some ae/\bP (df w L I J) cs ae.toList
 | [],[],cells,cs,arr,h,_,ab=>by simp[EO]at h;subst h;exact⟨arr,rfl,ab⟩
 |(i,v)::parts,(i',x)::aa,cells,cs,arr,h,⟨⟨hi,hr⟩,af⟩,ab=>by
  simp only at hi
  subst hi
  rw[EO]at h
  split at h
  .rename_i off s hp
   split at h
   .rename_i hc
    have ad:=BN hr hc.1
    have hl:=ad.length
    have aj:=ab.length
    simp only[Cq]at hl aj
    rw[Jb (s:=s) (ai _ _ hp) (by rw[<-hl];exact hc.2.1) om]
    exact Me ai parts aa _ cs _ h af (by grind[Qa])
   grind
  grind
 | [],_::_,_,_,_,_,h,_=>h.elim
 |_::_,[],_,_,_,_,h,_=>h.elim
theorem Ye {pos:String} (t:TypeId) (ps:Array (Nat×Operand)) (h:dQ c nt e I a w L J):
  fa (yh (wB P t) (eY P t) (ps.toList.map λp=>(p.1,zG e p.2))) I (bU P c ⟨dst,.build t ps,ty,pos,dX,g⟩ a w L I J):=by
 unfold yh
 split
 .rename_i z pl hz ad
  split
  .rename_i cs hf
   obtain⟨i,zv,hi,ah,ai,rfl⟩:=I7 hz
   have ab:=bP.iq h ps.toList
   have ae:bP (df w L I J) (zv.cells.toList.map jl) zv.cells.toList:=(Ma ai).imp λ_ _=>df.dw
   have aj:(ps.map λ(k,x)=>(k,a.eval x)).toList=ps.toList.map λp=>(p.1,a.eval p.2):=sm
   have af: ∃aa,P.built t (ps.map λ(k,x)=>(k,a.eval x)).toList=some aa/\bP (df w L I J) cs aa.toList:=by
    unfold eY at ad
    unfold Program.built
    rw[hi,aj]
    split at ad
    .rename_i fs hu
     simp only[hu,ah,ad]
     exact Me sm _ _ _ _ _ hf ab ae
    .rename_i n el hu
     cases ak:P.info? el with
     |none=>grind
     |some ie=>
      simp only[ak,Bb,aiy]at ad
      subst ad
      simp only[hu,ah,ak]
      refine Me (λk x hk=> ?_) _ _ _ _ _ hf ab ae
      grind
    grind
   obtain⟨aa,hb,al⟩:=af
   refine bU.pure h (x:= .agg aa) ?_ ⟨aa.toList,sm,al⟩
   simp_all[run_build,execOp]
  trivial
 trivial
def oo (v:Option V) (d:Int):Option Int:=
 match v with
 |none=>some d
 |some (.int _ n)=>some n
 |some _=>none
def sI (ar:Option (Nat×Nat×Bool)) (k:Nat) (es:aj5) (x:V) (lo hi:Option V):R:=
 match x with
 | .cM id s n l0 m=>(match oo lo 0,oo hi m,es with
  |some l,some h,some z=>if k=2 then .ee (0<=l/\l<=h/\(h<=m\/(l0:Int)+h<=n)/\z=s) (.cM id s n (l0+l.toNat) (h - l).toNat)else .fail
  |_,_,_=> .fail)
 | .ptr id off=>(match lo,hi,ar with
  |none,none,some (n,s,_)=> .ok (.j6 id s off n)
  |_,_,_=> .fail)
 | .str s=>(match oo lo 0,oo hi s.length with
  |some l,some h=>if k=1 then .ee (0<=l/\l<=h/\h<=s.length) (.str ((s.take h.toNat).drop l.toNat))else .fail
  |_,_=> .fail)
 | .sl _ rows=>(match oo lo 0,oo hi rows.length,es with
  |some l,some h,some z=>if k=2 then .ee (0<=l/\l<=h/\h<=rows.length/\eI z rows) (.sl .ro ((rows.take h.toNat).drop l.toNat))else .fail
  |_,_,_=> .fail)
 |_=> .fail
theorem ux {v:Value} {k:IntKind} {i:Int} {y:Nat} {code:BoundsCode} (hv:v= .int k i) (h0:0<=i) (hy:i<=y) (w:World):(Instr.sliceBound v y code).run P w= .ok i.toNat w:=by
 simp_all[Instr.sliceBound,asIntOf]
theorem Yf {x:Option Operand} {d n:Int} (hb:oo (x.map (zG e)) d=some n) (h:dQ c nt e I a w L J):(x=none/\n=d)\/ ∃p k,x=some p/\a.eval p= .int k n:=by
 unfold oo at hb
 split at hb
 .simp_all
 .rename_i k m hx
  cases x with
  |none=>grind
  |some p=>
   simp at hx hb
   subst hb
   exact .inr ⟨p,k,rfl,yO (hx▸h.eval p)⟩
 grind
theorem Jd {GR:Bool} {len l hh:Nat} {lo hi:Option Value} (aa:(lo=none/\l=0)\/ ∃k,lo=some (.int k l)) (ab:(hi=none/\hh=len)\/ ∃k,hi=some (.int k hh)) (h1:l<=hh) (h2:hh<=cap) (w:World):
  (Instr.sliceBounds GR len cap lo hi none).run P w= .ok (l,hh,cap) w:=by
 rcases aa with ⟨rfl,rfl⟩|⟨k,rfl⟩<;>rcases ab with ⟨rfl,rfl⟩|⟨k',rfl⟩
 .rfl
 .have:=λcode=>ux (P:=P) (code:=code) (v:= .int k' hh) (y:=cap) rfl om om w
  simp_all[Instr.sliceBounds]
 .have:=λcode=>ux (P:=P) (code:=code) (v:= .int k l) (y:=hh) rfl om om w
  simp_all[Instr.sliceBounds]
 .have e1:=λcode=>ux (P:=P) (code:=code) (v:= .int k l) (y:=hh) rfl om om w
  have e2:=λcode=>ux (P:=P) (code:=code) (v:= .int k' hh) (y:=cap) rfl om om w
  simp_all[Instr.sliceBounds]
theorem Yg (s:aiZ) (l h:Nat):(ByteArray.mk s.toArray).extract l h=ByteArray.mk ((s.take h).drop l).toArray:=by
 apply ByteArray.ext
 grind[ByteArray.data_extract]
theorem cF.sub {rows:List (List V)} {s l hh:Nat} {ad:Option Addr} (r:cF w L (.sl .ro rows) (.slice ad n cap)) (hs:0<s) (hu:eI s rows) (h1:l<=hh) (h2:hh<=rows.length):
  cF w L (.sl .ro ((rows.take hh).drop l)) (.slice (if cap=l then ad else ad.map (·.add (l*s))) (hh - l) (cap - l)):=by
 have hlen:((rows.take hh).drop l).length=hh - l:=by grind
 by_cases h0:hh - l=0
 .have ae:(rows.take hh).drop l= []:=(by grind)
  rw[ae,h0]
  exact .jq _ _ _ sm sm
 .have af:rows≠ []:=(by grind)
  obtain⟨s',b,o',ak,e1,ah,aa,ff,dq,_,hc⟩:=r.flat af
  cases e1
  have ai:s'=s:=by
   obtain⟨r0,rest,rfl⟩:=Cl af
   rw[<-aa r0 sm,hu r0 sm]
  subst ai
  rw[aiu om]
  simp only[Bb,wE]
  have hm:(rows.length)*s'=l*s'+(hh - l)*s'+(rows.length - hh)*s':=by rw[<-B4,<-B4];grind
  rw[<-hlen]
  have ab:eI s' ((rows.take hh).drop l):=λq hq=>aa q (by grind)
  refine .of_flat ah ab (by grind) om sm sm λk v hk=> ?_
  have al:k<(hh - l)*s':=by
   have:=(A4.1 hk).1
   rwa [yB ab,hlen]at this
  have hi:k/s'<hh - l:=by simp_all[C3]
  have hj:k%s'<s':=Cr _ ah
  have aj:k=k/s'*s'+k%s':=by grind[D1]
  rw[aj,yQ _ _ ab hj]at hk
  rw[C6,Ap,aiv om]at hk
  have an:rows.flatten[(l+k/s')*s'+k%s']? =some v:=by rw[yQ _ _ aa hj];exact hk
  grind
theorem Yh {pos:String} (t:TypeId) (x:Operand) (lo hi:Option Operand) (h:dQ c nt e I a w L J):
  fa (sI (iT P t) (dL P t) ((eF P t).map (·.1)) (zG e x) (lo.map (zG e)) (hi.map (zG e))) I (bU P c ⟨dst,.slice t x lo hi none,ty,pos,dX,g⟩ a w L I J):=by
 have hx:=h.eval x
 have conv: ∀{z:Option Operand} {d n:Int} {m:Nat},oo (z.map (zG e)) d=some n->n=m-> ∀{dn:Nat},d=dn->((z.map a.eval)=none/\m=dn)\/ ∃k,(z.map a.eval)=some (.int k m):=by
  intro z d n m hz hn dn hd
  rcases Yf hz h with ⟨rfl,q⟩|⟨p,k,rfl,q⟩
  all_goals grind
 unfold sI
 split
 .rename_i id s n l0 m h1
  rw[h1]at hx
  split
  .rename_i l hh z hl aa hz
   split
   .rename_i hk
    obtain⟨ai,aj⟩:=uw hk
    rintro⟨a0,a1,a2,rfl⟩
    have r1:=conv hl (m:=l.toNat) om (dn:=0) rfl
    have r2:=conv aa (m:=hh.toNat) om (dn:=m) rfl
    obtain⟨ak,ab⟩: ∃b,eF P t=some (z,b):=by
     simp_all
    obtain⟨el,i,zz,hu,al,an,rfl,_,ao,hs,_⟩:=qm ab
    obtain⟨ad,cap,hv,aw,ae,hc⟩:=hx
    have aq:hh.toNat<=cap:=om
    have:=Jd (P:=P) (GR:=true) (len:=m) (cap:=cap) r1 r2 om aq w
    refine bU.pure h (x:= .slice (if cap=l.toNat then ad else ad.map (·.add (l.toNat*i.size))) (hh.toNat - l.toNat) (cap - l.toNat)) ?_ ?_
    .simp_all[execOp,Instr.sliceAt,run_underlying,Instr.slice,sizeOf,typeInfo]
    .refine⟨_,cap - l.toNat,by rw[show(hh - l).toNat=hh.toNat - l.toNat by omega],om,λhp=> ?_, ?_⟩
     .obtain⟨b,o,rfl⟩:=ae om
      rw[aiu om]
      simp[wE]
     .rcases hc with hd|⟨rows,cJ,hn,hb⟩
      .grind
      .refine .inr ⟨rows,cJ,hn,λq1=> ?_⟩
       obtain⟨b0,c0,dh,ax,ar,af⟩:=hb q1
       clear hb ae
       refine⟨b0,c0,dh,om,om,λay=> ?_⟩
       obtain⟨k0,e1,e2⟩:=af om
       simp_all[wE,B4];omega
   trivial
  trivial
 .rename_i id off h1
  rw[h1]at hx
  split
  .rename_i n sz ag ar az au
   obtain⟨bl,hb,hv⟩:=hx
   obtain⟨el,hu,ab,_⟩:=I8 au
   have e1:lo=none:=by simp_all
   have e2:hi=none:=by simp_all
   subst e1 e2
   refine bU.pure h (x:= .slice (some ⟨bl,off,none⟩) n n) ?_ ⟨bl,hb,rfl⟩
   simp_all[execOp,Instr.sliceAt,run_underlying,Instr.sureAddr,Instr.sliceBounds,oL,wE]
  trivial
 .rename_i s h1
  rw[h1]at hx
  split
  .rename_i l hh hl aa
   split
   .rename_i hk
    have hu:=I9 hk
    rintro⟨a0,a1,a2⟩
    have r1:=conv hl (m:=l.toNat) om (dn:=0) rfl
    have r2:=conv aa (m:=hh.toNat) om (dn:=s.length) rfl
    refine bU.pure h (x:= .string ⟨((s.take hh.toNat).drop l.toNat).toArray⟩) ?_ (cF.str _)
    have:=Jd (P:=P) (GR:=false) (len:=(ByteArray.mk s.toArray).size) (cap:=(ByteArray.mk s.toArray).size) r1 (by rw[yf];exact r2) om (by rw[yf];omega) w
    simp[execOp,lh hx,Instr.sliceAt,run_underlying hu,Instr.slice,this,Yg]
   trivial
  trivial
 .rename_i gg rows h1
  rw[h1]at hx
  split
  .rename_i l hh z hl aa hz
   split
   .rename_i hk
    obtain⟨ai,aj⟩:=uw hk
    rintro⟨a0,a1,a2,av⟩
    have r1:=conv hl (m:=l.toNat) om (dn:=0) rfl
    have r2:=conv aa (m:=hh.toNat) om (dn:=rows.length) rfl
    obtain⟨ak,ab⟩: ∃b,eF P t=some (z,b):=by
     simp_all
    obtain⟨el,i,zz,hu,al,an,rfl,_,ao,hs,_⟩:=qm ab
    have hr:=sC hx
    obtain⟨base,cap,hv,a6,_⟩:=hr.len
    rw[hv]at hr
    have ah:=hr.sub (l:=l.toNat) (hh:=hh.toNat) hs av om om
    refine bU.pure h (x:= .slice (if cap=l.toNat then base else base.map (·.add (l.toNat*i.size))) (hh.toNat - l.toNat) (cap - l.toNat)) ?_ ah
    have:=Jd (P:=P) (GR:=true) (len:=rows.length) (cap:=cap) r1 r2 om om w
    simp_all[execOp,Instr.sliceAt,run_underlying,Instr.slice,sizeOf,typeInfo]
   trivial
  trivial
 trivial
def yi (k:Nat) (es:aj5) (I:St) (x lo:V):R:=
 match x,lo,es with
 | .sl (.app id) rows,.int _ l,some z=>(match I[id]? with
  |some (.app n s)=>if k=2 then .dF (0<=l/\l<=rows.length/\rows.length=n/\z=s) (.sl (.app I.length) (rows.drop l.toNat)) (I.set id (.app (n+1) s)++ [.app (n - l.toNat) s])else .fail
  |_=> .fail)
 |_,_,_=> .fail
theorem Ext.BU {i s m:Nat} {x y:Value} (hi:I[i]? =some (.app n s)) (dh:J[i]? =some x) (hx: ∀a,x≠ .pointer a) (aa:n<m):
  Ext I J (I.set i (.app m s)) (J.set i y):=by
 have ab:i<I.length:=(by grind)
 refine⟨(by grind),(by grind),(by grind),(by grind)⟩
 all_goals grind
theorem Yi {pos:String} (t:TypeId) (x lo:Operand) (h:dQ c nt e I a w L J):
  fa (yi (dL P t) ((eF P t).map (·.1)) I (zG e x) (zG e lo)) I (bU P c ⟨dst,.slice t x (some lo) none none,ty,pos,dX,g⟩ a w L I J):=by
 have hx:=h.eval x
 have ai:=h.eval lo
 unfold yi
 split
 .rename_i id rows kk l z h1 h2 hz
  rw[h1]at hx
  rw[h2]at ai
  split
  .rename_i n s cJ
   split
   .rename_i hk
    obtain⟨a8,aA⟩:=uw hk
    rintro⟨a0,a1,hn,aj⟩
    subst aj
    obtain⟨aB,ao⟩: ∃b,eF P t=some (z,b):=by
     simp_all
    obtain⟨el,i,zz,hu,aC,aD,rfl,_,aE,hs,_⟩:=qm ao
    obtain⟨hr,n',s',e1,hle,aq,ar⟩:=hx
    rw[cJ]at e1;cases e1
    have dh:=aq hn
    have cQ:=h.mem.di id _ _ cJ dh
    obtain⟨ad,cap,hv,au,ak,aa⟩:=cQ
    rw[hv]at hr dh
    have aF:id<I.length:=(by grind)
    subst hn
    have ae:=hr.sub (l:=l.toNat) (hh:=rows.length) hs ar om om
    rw[Aa (A7 _)]at ae
    have hb:=Jd (P:=P) (GR:=true) (len:=rows.length) (cap:=cap) (l:=l.toNat) (hh:=rows.length) (lo:=some (a.eval lo)) (hi:=none) (.inr ⟨kk,by rw[yO ai];grind⟩) sm om au w
    have ab:Ext I J (I.set id (.app (rows.length+1) i.size)) (J.set id (.slice none (rows.length+1) (rows.length+1))):=(by grind[Ext.BU])
    have al:Mem c w L (I.set id (.app (rows.length+1) i.size)) (J.set id (.slice none (rows.length+1) (rows.length+1))):=by
     refine h.mem.fo id _ _ (Le.refl _ _) ab (λ_=>False) sm sm sm rfl rfl rfl rfl h.mem.lim ?_ (λb q=> ?_)
     .exact⟨none,_,rfl,om,ak,om⟩
     trivial
    have hex: ∀b,dd (.app (rows.length - l.toNat) i.size) (.slice (if cap=l.toNat then ad else ad.map (·.add (l.toNat*i.size))) (rows.length - l.toNat) (cap - l.toNat))=some b->dd (.app rows.length i.size) (.slice ad rows.length cap)=some b:=λb q=>by
     clear aa
     by_cases q1:cap=l.toNat
     .rw[aiv q1]at q
      cases ad<;>simp_all[dd]
     .rw[aiu q1]at q
      cases ad with
      |none=>simpa
      |some a1=>
       simp only[dd,Bb]at q⊢
       split at q
       .rename_i q2
        rw[aiv om]
        rw[<-q];unfold Addr.add;grind
       grind
    have av:=al.push (.app (rows.length - l.toNat) i.size) (.slice (if cap=l.toNat then ad else ad.map (·.add (l.toNat*i.size))) (rows.length - l.toNat) (cap - l.toNat))
     ⟨_,_,rfl,om,ak,λq=>by
      have q0:rows.length<cap:=om
      obtain⟨b,o,arr,T,fz,rfl,hh,hf,a7,hL⟩:=aa q0
      have q1: ¬cap=l.toNat:=om
      refine⟨b,o+l.toNat*i.size,arr,T,fz,by simp_all[wE],hh,hf, ?_, ?_⟩
      .rw[Dy,<-B4]
       grind
      .rw[hL,Dy,<-B4]
       grind⟩
     (λj o' x' b aw an he af=>by
      have ax:=hex b af
      rcases oK aw with ⟨rfl,rfl,_⟩|⟨ay,az⟩
      .rcases oK an with ⟨_,rfl,_⟩|⟨q,_⟩
       all_goals trivial
      .rcases oK an with ⟨q,_,_⟩|⟨_,a6⟩
       .omega
       .exact h.mem.apart j id _ _ _ _ b ay az a6 cJ dh he ax)
     (λb af=>h.mem.fW id _ _ b cJ dh (hex b af))
    have ah:=ab.trans (Ext.push _ _ al.len (.app (rows.length - l.toNat) i.size) (.slice (if cap=l.toNat then ad else ad.map (·.add (l.toNat*i.size))) (rows.length - l.toNat) (cap - l.toNat)))
    refine⟨_,w,L,_,.inl ?_,av,Le.refl _ _,ah,ae,rows.length - l.toNat,i.size,sm,sm,λ_=>by simp[h.mem.len],(by grind)⟩
    simp_all[execOp,Instr.sliceAt,run_underlying,Instr.slice,sizeOf,typeInfo]
   trivial
  trivial
 trivial
def yj (es:aj5) (x lo hi mx:V):R:=
 match x,lo,hi,mx,es with
 | .sl _ rows,.int _ l,.int _ h,.int _ m,some z=> .ee (0<=l/\l<=h/\h<=rows.length/\m=h/\eI z rows) (.sl .full ((rows.take h.toNat).drop l.toNat))
 | .cM _ s _ _ n,.int _ l,.int _ h,.int _ m,some z=> .ee (0<=l/\l<=h/\h<=m/\m<=n/\z=s) (if l=m then .sl .full []else .u)
 |_,_,_,_,_=> .fail
theorem cF.full {rows:List (List V)} {ad:Option Addr} (r:cF w L (.sl .ro rows) (.slice ad n n)) (hn:n=rows.length):cF w L (.sl .full rows) (.slice ad n n):=by
 cases r with
 |jq _ a cap hg ha=>exact .jq _ _ _ om sm
 |sl _ _ s b o cap c ha hs hlen ff dq hg hc hr=>exact .sl _ rows s b o _ c sm hs hlen ff dq om hc hr
theorem cF.shrink {rows:List (List V)} {s M:Nat} {base:Option Addr} (hr:cF w L (.sl .ro rows) (.slice base n cap)) (hs:0<s) (ad:eI s rows) (hM:M<=rows.length):cF w L (.sl .ro (rows.take M)) (.slice base M M):=by
 have hlen:(rows.take M).length=M:=by grind
 by_cases h0:M=0
 .subst h0
  exact .jq _ _ _ om sm
 .have aa:rows≠ []:=(by grind)
  obtain⟨s',b,o',ah,q,ae,ab,ff,dq,_,hc⟩:=hr.flat aa
  cases q
  have af:s'=s:=by
   obtain⟨r0,rest,rfl⟩:=Cl aa
   rw[<-ab r0 sm,ad r0 sm]
  subst af
  have hm:M*s'<=rows.length*s':=Ak _ hM
  have key:cF w L (.sl .ro (rows.take M)) (.slice (some ⟨b,o',none⟩) (rows.take M).length M):=by
   refine .of_flat ae (λq hq=>ab q (by grind)) (by grind) om sm om λk v hk=>hc k v ?_
   grind[B8]
  grind
theorem Yj {pos:String} (t:TypeId) (x lo hi mx:Operand) (h:dQ c nt e I a w L J):
  fa (yj ((eF P t).map (·.1)) (zG e x) (zG e lo) (zG e hi) (zG e mx)) I (bU P c ⟨dst,.slice t x (some lo) (some hi) (some mx),ty,pos,dX,g⟩ a w L I J):=by
 have hx:=h.eval x
 have h2:=h.eval lo
 have h3:=h.eval hi
 have h4:=h.eval mx
 unfold yj
 split
 .rename_i gg rows k1 l k2 hh k3 m z e1 e2 e3 e4 hz
  rw[e1]at hx;rw[e2]at h2;rw[e3]at h3;rw[e4]at h4
  have e2:=yO h2;have e3:=yO h3;have e4:=yO h4
  rintro⟨a0,a1,a2,rfl,af⟩
  obtain⟨ah,ab⟩: ∃b,eF P t=some (z,b):=by
   simp_all
  obtain⟨el,i,zz,hu,ai,aj,rfl,_,ak,hs,_⟩:=qm ab
  have hr:=sC hx
  obtain⟨base,cap,hv,an,_⟩:=hr.len
  rw[hv]at hr
  have ae:=hr.shrink (M:=m.toNat) hs af om
  have aa:=ae.sub (l:=l.toNat) (hh:=m.toNat) hs (λq hq=>af q (by grind)) om (by grind)
  rw[aiU,Nat.min_self]at aa
  refine bU.pure h (x:= .slice (if m.toNat=l.toNat then base else base.map (·.add (l.toNat*i.size))) (m.toNat - l.toNat) (m.toNat - l.toNat)) ?_ (aa.full (by grind))
  have b1:=λcode=>ux (P:=P) (code:=code) e2 a0 (show l<=(m.toNat:Nat) by omega) w
  have b2:=λcode=>ux (P:=P) (code:=code) e3 om (show m<=(m.toNat:Nat) by omega) w
  have b3:=λcode=>ux (P:=P) (code:=code) e4 om (show m<=(cap:Nat) by omega) w
  simp_all[run_underlying,execOp,Instr.sliceAt,Instr.slice,Instr.sliceBounds,sizeOf,typeInfo]
 .rename_i id s n0 ao n k1 l k2 hh k3 m z e1 e2 e3 e4 hz
  rw[e1]at hx;rw[e2]at h2;rw[e3]at h3;rw[e4]at h4
  have e2:=yO h2;have e3:=yO h3;have e4:=yO h4
  rintro⟨a0,a1,a2,a3,rfl⟩
  obtain⟨ah,ab⟩: ∃b,eF P t=some (z,b):=by
   simp_all
  obtain⟨el,i,zz,hu,ai,aj,rfl,_,ak,hs,_⟩:=qm ab
  obtain⟨ad,cap,hv,al,_,_⟩:=hx
  refine bU.pure h (x:= .slice (if m.toNat=l.toNat then ad else ad.map (·.add (l.toNat*i.size))) (hh.toNat - l.toNat) (m.toNat - l.toNat)) ?_ (by
   split
   .have h1:hh.toNat - l.toNat=0:=om
    have h2:m.toNat - l.toNat=0:=om
    rw[h1,h2]
    exact cF.jq _ _ _ om sm
   trivial)
  have b1:=λcode=>ux (P:=P) (code:=code) e2 a0 (show l<=(hh.toNat:Nat) by omega) w
  have b2:=λcode=>ux (P:=P) (code:=code) e3 om (show hh<=(m.toNat:Nat) by omega) w
  have b3:=λcode=>ux (P:=P) (code:=code) e4 om (show m<=(cap:Nat) by have:=al.1;omega) w
  simp_all[execOp,Instr.sliceAt,run_underlying,Instr.slice,Instr.sliceBounds,sizeOf,typeInfo]
 trivial
end
section
variable {P:Program} {c:Ctx} {nt:Nat} {e:Env} {I:St} {a:Act} {w:World} {L:Nat->Nat} {J:aj1} {o:Oper}
variable {dst:Option Tmp}{ty:TypeId}{dX:Array Edge}{g:Option (Nat×Bool)}{t:TypeId}
def uy:List V->UInt8
 | [.int _ n]=>UInt8.ofNat n.toNat
 |_=>0
def GS (rows:List (List V)):Prop:= ∀r∈rows,∃n,r= [.int .u8 n]
theorem xR (s:aiZ):GS (zO s):=λr hr=>by
 obtain⟨b,_,rfl⟩:=Ac.1 hr;simp
theorem GU (s:aiZ):(zO s).map uy=s:=by
 simp[zO,B9,uy]
def vI (ks kd:Option Kd) (x:V):R:=
 match kd,x with
 |some (.int k),.int _ n=>if ks.isSome then .ok (.int k (k.wrap n))else .fail
 |some .str,.str s=>if ks.isSome then .ok (.str s)else .fail
 |some .bytes,.str s=>if ks=some .str then .ok (.sl .ro (zO s))else .fail
 |some .str,.sl _ rows=>if ks=some .bytes then .ee (GS rows) (.str (rows.map uy))else .fail
 |_,_=> .fail
theorem Yk {k:IntKind} (h:jJ P t=some (.int k)):P.underlying t=some (.int k):=by
 grind[jJ]
theorem EP (h:jJ P t=some .str):P.underlying t=some .string:=by
 grind[jJ]
theorem Mf (h:jJ P t=some .bytes): ∃el,P.underlying t=some (.slice el)/\P.underlying el=some (.int .u8):=by
 grind[jJ]
theorem Qp (h:(jJ P t).isSome): ∃d,P.underlying t=some d:=by
 grind[jJ]
theorem Yl {rows:List (List V)} (h:GS rows): ∃xs:aj2,rows=xs.map (λn=> [V.int .u8 n]):=by
 induction rows with
 |nil=>simp
 |cons r rows ih=>
  obtain⟨n,hn⟩:=h r sm
  obtain⟨xs,hx⟩:=ih λq hq=>h q (by grind)
  exact⟨n::xs,by grind⟩
theorem Ym {pos:String} (t t':TypeId) (x:Operand) (h:dQ c nt e I a w L J):
  fa (vI (jJ P t) (jJ P t') (zG e x)) I (bU P c ⟨dst,.convert t t' x,ty,pos,dX,g⟩ a w L I J):=by
 have hx:=h.eval x
 unfold vI
 split
 .rename_i k k' n hk h1
  rw[h1]at hx
  split
  .rename_i hs
   obtain⟨d,hd⟩:=Qp hs
   exact bU.pure h (x:= .int k (k.wrap n)) (by simp[execOp,yO hx,convert,run_underlying hd,run_underlying (Yk hk),Conv.intToInt]) (cF.int _ _)
  trivial
 .rename_i s hk h1
  rw[h1]at hx
  split
  .rename_i hs
   obtain⟨d,hd⟩:=Qp hs
   exact bU.pure h (x:= .string ⟨s.toArray⟩) (by simp[execOp,lh hx,convert,run_underlying hd,run_underlying (EP hk)]) (cF.str _)
  trivial
 .rename_i s hk h1
  rw[h1]at hx
  split
  .rename_i hs
   obtain⟨el,hu,he⟩:=Mf hk
   have hr:=run_bytes_of_string (P:=P) w t t' el ⟨s.toArray⟩ (EP hs) hu he
   have hd:=h.mem.drew
   obtain⟨h1,h2⟩:=hd.1.alloc (.cells (bytesRow ⟨s.toArray⟩ (grownCap w (ByteArray.mk s.toArray).size 0 el)) el ((bytesRow ⟨s.toArray⟩ (grownCap w (ByteArray.mk s.toArray).size 0 el)).size,(bytesRow ⟨s.toArray⟩ (grownCap w (ByteArray.mk s.toArray).size 0 el)).size+1)) s.length
   refine⟨_,_,_,J,.inl (by simp only[execOp,lh hx,Sem.run_bind,hr,Result.andThen_ok,Sem.run_pure];rfl),h1,hd.2.trans h2,Ext.refl _ _, ?_⟩
   have ah:=grownCap_ge w (ByteArray.mk s.toArray).size 0 el
   have hl:(zO s).length=s.length:=by simp[zO]
   have:cF (w.drew.alloc (.cells (bytesRow ⟨s.toArray⟩ (grownCap w (ByteArray.mk s.toArray).size 0 el)) el ((bytesRow ⟨s.toArray⟩ (grownCap w (ByteArray.mk s.toArray).size 0 el)).size,(bytesRow ⟨s.toArray⟩ (grownCap w (ByteArray.mk s.toArray).size 0 el)).size+1))) (xM L w.drew.heap.size s.length) (.sl .ro (zO s)) (.slice (some ⟨w.drew.heap.size,0,none⟩) (zO s).length (grownCap w (ByteArray.mk s.toArray).size 0 el)):=by
    refine .kF (xs:=byteCells ⟨s.toArray⟩) (s:=1) om (Qb s) (by grind[xM]) (by grind[yf]) sm sm (yL _ _) (λk v hk=> ?_) (IY s)
    have ai:=(A4.1 hk).1
    simp_all[bytesRow,Dm,byteCells]
   rw[hl,<-yf s]at this
   simpa
  trivial
 .rename_i gg rows hk h1
  rw[h1]at hx
  split
  .rename_i hs
   obtain⟨el,hu,he⟩:=Mf hs
   intro hb
   obtain⟨xs,rfl⟩:=Yl hb
   have hr:=sC hx
   have ab:(xs.map λn=> [V.int .u8 n]).map uy=xs.map λn:Int=>UInt8.ofNat n.toNat:=by rw[Bg];rfl
   rw[ab]
   refine bU.pure h (x:= .string ⟨(xs.map λn:Int=>UInt8.ofNat n.toNat).toArray⟩) ?_ (cF.str _)
   by_cases h0:xs= []
   .subst h0
    obtain⟨base,cap,hv,_,_⟩:=hr.len
    have aa:(convert t t' (.slice base 0 cap)).run P w= .ok (.string ByteArray.empty) w:=by
     cases base with
     |none=>grind[run_convert_bytes_nil,EP]
     |some ad=>
      obtain⟨b,off,sp⟩:=ad
      rw[run_convert_bytes_string w t t' el _ 0 cap hu he (EP hk),run_bytesToString w _ 0 cap [] (by simp[loadCells,loadCellsFrom])]
      rfl
    simp only[Bq,Cs]at hv
    simp only[execOp,hv,Sem.run_bind,aa,Result.andThen_ok,Sem.run_pure]
    rfl
   .obtain⟨s,b,o',cap,hv,aj,ae,_,_,_,hc⟩:=hr.flat (by simp_all)
    have af:s=1:=by
     obtain⟨n,rest,rfl⟩:=Cl h0
     exact(ae [.int .u8 n] sm).symm
    subst af
    have aa:=run_convert_bytes_arg (P:=P) w t el hu he b o' xs.length cap xs rfl (λi hi=>by
     obtain⟨y,hy,r⟩:=hc i (.int .u8 (xs.getD i 0)) (by
      have:=yQ (rows:=xs.map λn=> [V.int .u8 n]) i 0 ae om
      grind)
     have:y= .int .u8 (xs.getD i 0):=by cases r;rfl
     grind) t' (EP hk)
    simp only[Ag]at hv
    simp only[execOp,hv,Sem.run_bind,aa,Result.andThen_ok,Sem.run_pure]
    rfl
  trivial
 trivial
def yl (fl:Option (Nat×Nat×Bool)) (x:V):R:=
 match fl,x with
 |some (off,s,true),.agg cs=>if off+s<=cs.length then .ok (.agg ((cs.drop off).take s))else .fail
 |some (off,_,false),.agg cs=>(match cs[off]? with|some v=> .ok v|none=> .fail)
 |_,_=> .fail
theorem Yn {pos:String} (t:TypeId) (x:Operand) (f:Nat) (h:dQ c nt e I a w L J):
  fa (yl (cw P t f) (zG e x)) I (bU P c ⟨dst,.field t x f,ty,pos,dX,g⟩ a w L I J):=by
 have hx:=h.eval x
 unfold yl
 split
 .rename_i off s cs hf h1
  rw[h1]at hx
  split
  .rename_i hle
   obtain⟨xs,hv,aa⟩:=hx
   obtain⟨fs,fd,hu,ab,rfl,hs,hb,h0⟩:=L7 hf
   have hl:=aa.length
   refine bU.pure h (x:= .agg ((xs.drop fd.offset).take s).toArray) ?_ ⟨_,rfl,(aa.drop _).take _⟩
   simp_all[execOp,Instr.field,run_underlying,asAgg,part,uv,oL]
  trivial
 .rename_i off s cs hf h1
  rw[h1]at hx
  split
  .rename_i v ad
   obtain⟨xs,hv,aa⟩:=hx
   obtain⟨fs,fd,hu,ab,rfl,hs,hb,h0⟩:=L7 hf
   obtain⟨y,hy,r⟩:=aa.get _ _ ad
   refine bU.pure h (x:=y) ?_ (dD.dK r)
   simp_all[execOp,Instr.field,run_underlying,asAgg,part,uv]
  trivial
 trivial
def GV (v:V):Bool:=pN v||(match v with| .ptr _ _| .oJ _ _| .cM _ _ _ _ _| .iQ _ _ _ _ _| .j6 _ _ _ _| .mp _=>true|_=>false)
theorem Yo {v:V} {x:Value} (r:dD w L I J v x) (h:GV v):gP w L I J v x:=by
 cases v<;>first|exact r|simp[GV,pN]at h
def ym (fn:Fn) (first:Nat) (bY:List V):R:=
 match fn with
 | .func f=>if first=0/\bY.all GV=true then .ok (.fn f bY)else .fail
 |_=> .fail
theorem Yp {pos:String} (fn:Fn) (first bY:Array Operand) (h:dQ c nt e I a w L J):
  fa (ym fn first.size (bY.toList.map (zG e))) I (bU P c ⟨dst,.makeFunc fn first bY,ty,pos,dX,g⟩ a w L I J):=by
 unfold ym
 split
 .rename_i f
  split
  .rename_i hc
   obtain⟨h0,hk⟩:=hc
   have hf:first= #[]:=(by grind)
   subst hf
   refine bU.pure h (x:= .func (.func f) #[] (bY.toList.map a.eval).toArray) (by simp[execOp,Instr.makeFunc];grind) ⟨_,rfl, ?_⟩
   have: ∀l:List Operand,(l.map (zG e)).all GV=true->bP (gP w L I J) (l.map (zG e)) (l.map a.eval):=by
    intro l
    induction l with
    |nil=>intro _;trivial
    |cons p l ih=>
     intro hl
     simp at hl
     exact⟨Yo (h.eval p) hl.1,(by grind)⟩
   grind
  trivial
 trivial
def js (P:Program) (t:TypeId):Option (List V):=
 match P.underlying t with
 |some (.slice el)=>wB P el
 |_=>none
def vJ (el:Option (Nat×Nat)) (zs:Option (List V)) (I:St) (l m:V):R:=
 match el,zs,l,m with
 |some (s,lk),some z,.int .i64 n,.int .i64 k=> .dF (0<=n/\n<=k/\k.toNat*lk<=140737488355328) (.sl (.app I.length) (List.replicate n.toNat z)) (I++ [.app n.toNat s])
 |_,_,_,_=> .fail
theorem Qq {z:aj3} {s N:Nat} (hz:z.size=s) (hs:0<s) (k:Nat) (hk:k<N*s):((Array.range (N*s)).map (z[· %z.size]!))[k]? =some (z.toList[k%s]'(by simp_all[Cr])):=by
 grind
theorem Qr {s ab:Nat} {z:List V} {n k:Int} (al:eF P t=some (s,ab)) (hz:js P t=some z) (h0:0<=n) (hle:n<=k) (hb:k.toNat*ab<=140737488355328) (w:World) (L:Nat->Nat):
  ∃(el:TypeId) (cells:aj3),(Instr.makeSlice t (.int .i64 n) (.int .i64 k)).run P w= .ok (.slice (some ⟨w.heap.size,0,none⟩) n.toNat k.toNat) (w.alloc (.cells cells el))/\cells.size=k.toNat*s/\0<s/\
   eI s (List.replicate n.toNat z)/\bP (cF w L) (List.replicate n.toNat z).flatten (cells.toList.take (n.toNat*s)):=by
 obtain⟨el,i,zz,hu,hi,ad,rfl,rfl,an,hs,ao⟩:=qm al
 unfold js at hz
 rw[hu]at hz
 obtain⟨i',a8,ae,aa,a1,rfl⟩:=I7 hz
 rw[hi]at ae;cases ae
 rw[ad]at aa;cases aa
 have hk:k.toNat<=140737488355328:=Aw (Nat.le_mul_of_pos_right _ ao) hb
 have af:IntKind.i64.wrap n=n:=by grind[IntKind.wrap_i64]
 have ah:IntKind.i64.wrap k=k:=by grind[IntKind.wrap_i64]
 have aq:(i.bytes:Int)*k=((k.toNat*i.bytes:Nat):Int):=by
  grind
 have ai: ¬(281474976710656<(i.bytes:Int)*k):=om
 have q1: ¬k<0:=om
 have q2: ¬n<0:=om
 have q3: ¬k<n:=by omega
 let cells:aj3:=(Array.range (k.toNat*i.size)).map (zz.cells[· %zz.cells.size]!)
 have a6:(Instr.makeSlice t (.int .i64 n) (.int .i64 k)).run P w= .ok (.slice (some ⟨w.heap.size,0,none⟩) n.toNat k.toNat) (w.alloc (.cells cells el)):=by
  by_cases aj:k.toNat*i.size=0
  .have: ∀f:Nat->Value,(Array.range 0).map f= #[]:=sm
   have ar:cells= #[]:=by grind
   rw[ar]
   simp[Instr.makeSlice,run_underlying hu,asInt,asIntOf,typeInfo,hi,af,ah,ai,q1,q2,q3,sizeOf,aj,newRow,this]
  .simp[Instr.makeSlice,run_underlying hu,asInt,asIntOf,typeInfo,hi,af,ah,ai,q1,q2,q3,sizeOf,aj,newRow,zeroValue,ad,cells]
 have au:zz.cells.toList.length=i.size:=om
 have av:eI i.size (List.replicate n.toNat (zz.cells.toList.map jl)):=λr hr=>by
  grind
 have aw:n.toNat<=k.toNat:=om
 have hmul:n.toNat*i.size<=k.toNat*i.size:=Ak _ aw
 have hlen:(List.replicate n.toNat (zz.cells.toList.map jl)).length=n.toNat:=sm
 have a7:bP (cF w L) (List.replicate n.toNat (zz.cells.toList.map jl)).flatten (cells.toList.take (n.toNat*i.size)):=by
  refine bP.of ?_ λj p x hp hx=> ?_
  .grind[yB]
  .have ax:j<n.toNat*i.size:=by
    grind
   have ay:j/i.size<n.toNat:=by rw[C3 hs];omega
   have ak:j%i.size<i.size:=Cr _ hs
   have az:j=j/i.size*i.size+j%i.size:=by grind[D1]
   rw[az,yQ _ _ av ak,Dv,aiv ay]at hp
   simp only[Ax,B6]at hp
   rw[Ap,aiv ax,Aq]at hx
   have:=Qq an hs j (show j<k.toNat*i.size by omega)
   simp only[cells]at hx
   rw[this]at hx
   simp only[aiy]at hx
   rw[A0 (by rw[au];exact ak)]at hp
   simp only[Bb,aiy]at hp
   rw[<-hp,<-hx]
   exact(GK _ (by grind)).1
 grind
theorem Yq {pos:String} (t:TypeId) (l m:Operand) (h:dQ c nt e I a w L J):
  fa (vJ (eF P t) (js P t) I (zG e l) (zG e m)) I (bU P c ⟨dst,.makeSlice t l m,ty,pos,dX,g⟩ a w L I J):=by
 have hl:=h.eval l
 have hm:=h.eval m
 unfold vJ
 split
 .rename_i s aj z n k ah hz e1 e2
  rw[e1]at hl;rw[e2]at hm
  have e1:=yO hl;have e2:=yO hm
  rintro⟨h0,hle,hb⟩
  obtain⟨el,cells,ai,ak,hs,ad,ae⟩:=Qr ah hz h0 hle hb w L
  have hlen:(List.replicate n.toNat z).length=n.toNat:=sm
  obtain⟨aa,ab,af⟩:=h.mem.pL (s:=s) (cap:=k.toNat) (arr:=cells) (T:=el) hs ad ae om om (by grind)
  rw[hlen]at aa af ab
  refine⟨_,_,_,_,(by grind[execOp,Sem.run_bind,Result.andThen_ok,Sem.run_pure]),aa,ab,Ext.push _ _ h.mem.len _ _,af,n.toNat,s,sm,om,λ_=> ?_,ad⟩
  rw[<-h.mem.len];simp
 trivial
def vK (el:Option (Nat×Nat)) (zs:Option (List V)) (I:St) (l m:V):R:=
 match el,zs,l,m with
 |some (s,lk),some z,.int .i64 n,.int .i64 k=> .dF (0<=n/\n<=k/\k.toNat*lk<=140737488355328) (.cM I.length s n.toNat 0 n.toNat) (I++ [.cj (List.replicate n.toNat z) s])
 |_,_,_,_=> .fail
theorem GW {w':World} {L':Nat->Nat} {rows:List (List V)} {s cap:Nat} {a0:Option Addr} (hl:J.length=I.length) (dq:rows.length<=cap) (ha:0<cap-> ∃b,a0=some ⟨b,0,none⟩):
  dD w' L' (I++ [.cj rows s]) (J++ [.slice a0 rows.length cap]) (.cM I.length s rows.length 0 rows.length) (.slice a0 rows.length cap):=by
 refine⟨a0,cap,rfl,om,λhp=> ?_,.inr ⟨rows,sm,om,λ_=>⟨a0,cap, ?_,rfl,om,λhp=> ?_⟩⟩⟩
 all_goals grind
theorem Yr {pos:String} (t:TypeId) (l m:Operand) (h:dQ c nt e I a w L J):
  fa (vK (eF P t) (js P t) I (zG e l) (zG e m)) I (bU P c ⟨dst,.makeSlice t l m,ty,pos,dX,g⟩ a w L I J):=by
 have hl:=h.eval l
 have hm:=h.eval m
 unfold vK
 split
 .rename_i s ak z n k ah hz e1 e2
  rw[e1]at hl;rw[e2]at hm
  have e1:=yO hl;have e2:=yO hm
  rintro⟨h0,hle,hb⟩
  obtain⟨el,cells,aj,al,hs,ai,ad⟩:=Qr ah hz h0 hle hb w L
  have hlen:(List.replicate n.toNat z).length=n.toNat:=sm
  obtain⟨aa,ae,ab⟩:=h.mem.mb (s:=s) (cap:=k.toNat) (arr:=cells) (T:=el) hs ai (by rw[hlen];exact ad.imp λ_ _=>df.dw) om om
  have af:=GW (w':=w.alloc (.cells cells el)) (L':=L) (s:=s) (rows:=List.replicate n.toNat z) (cap:=k.toNat) (a0:=some ⟨w.heap.size,0,none⟩) h.mem.len om sm
  rw[hlen]at aa ab af
  exact⟨_,_,_,_,(by grind[execOp,Sem.run_bind,Result.andThen_ok,Sem.run_pure]),aa,ae,ab,af⟩
 trivial
theorem Ys (h:Mem c w L I J) {id s p:Nat} {rows r2:List (List V)} {ad:Option Addr} {lo n m cap:Nat} {x:Value} (cJ:I[id]? =some (.cj rows s)) (hx:dD w L I J (.cM id s n lo m) x) (hv:x= .slice ad m cap) (hn:rows.length=n) (ab:eI s r2)
  {news:aj1} (ae:bP (df w L I J) r2.flatten news) (af: ∀u∈news,u.oneCell') (hp:p=lo) (hk:r2.length<=m) (ay:lo+m<=n) (ar:0<r2.length):
  ∃a0 w',ad=some a0/\(storeCells a0 news 0).run P w= .ok () w'/\Mem c w' L (I.set id (.cj (rows.take p++r2++rows.drop (p+r2.length)) s)) J/\Le w L w' L/\Ext I J (I.set id (.cj (rows.take p++r2++rows.drop (p+r2.length)) s)) J:=by
 subst hp
 obtain⟨az,au,e0,a1,_,hc⟩:=hx
 rw[hv]at e0;cases e0
 rcases hc with hd|⟨cC,ah,a6,hb⟩
 .grind
 .rw[cJ]at ah;cases ah
  obtain⟨b0,c0,dh,a7,a8,aa⟩:=hb hn.symm
  have an:p<c0:=om
  obtain⟨k0,rfl,rfl⟩:=aa an
  clear hb aa
  obtain⟨a2,av,e1,aw,aA,ao,_⟩:=h.di id _ _ cJ dh
  cases e1
  have aq:(rows.take p++r2++rows.drop (p+r2.length)).length=rows.length:=by grind
  have ai:p*s<=rows.length*s:=Ak _ om
  obtain⟨arr,T,fz,hh,hf,ax,aj,hle,ak⟩:=h.gi (off:=p*s) (vs:=r2.flatten) (cC:=rows.take p++r2++rows.drop (p+r2.length)) cJ dh om
   ae ai (λr hr=>by
    rcases Af.1 hr with hr|hr
    .rcases Af.1 hr with hr|hr
     .grind
     .exact ab r hr
    grind) (Md ao ab om) om om
  have al:J.set id (.slice (some ⟨k0,0,none⟩) (rows.take p++r2++rows.drop (p+r2.length)).length c0)=J:=(by grind[yN])
  rw[al]at aj ak
  have aB:=xP P k0 (p*s) T fz news 0 arr w hh hf om af
  grind
def vL (sl:aj5) (zs:Option (List V)) (I:St) (x:V):R:=
 match zs,x with
 |some z,.cM id s n lo m=>(match I[id]? with
  |some (.cj rows s')=> .dF (sl=some s/\s'=s/\rows.length=n/\lo+m<=n) (.cy []) (I.set id (.cj (rows.take lo++List.replicate m z++rows.drop (lo+m)) s))
  |_=> .fail)
 |_,_=> .fail
theorem Yt {pos:String} (t:TypeId) (x:Operand) (h:dQ c nt e I a w L J):
  fa (vL ((eF P t).map (·.1)) (js P t) I (zG e x)) I (bU P c ⟨dst,.call ⟨.builtin .clear, #[x], #[t]⟩,ty,pos,dX,g⟩ a w L I J):=by
 have hx:=h.eval x
 unfold vL
 split
 .rename_i z id s n lo m hz h1
  rw[h1]at hx
  split
  .rename_i rows s' cJ
   rintro⟨a8,rfl,hn,al⟩
   obtain⟨aA,an⟩: ∃b,eF P t=some (s',b):=by
    simp_all
   obtain⟨el,i,zz,hu,hi,ao,rfl,rfl,ah,hs,aB⟩:=qm an
   unfold js at hz
   rw[hu]at hz
   obtain⟨i',aC,ai,ab,a6,rfl⟩:=I7 hz
   rw[hi]at ai;cases ai
   rw[ao]at ab;cases ab
   have aq:=hx
   obtain⟨ad,cap,hv,aD,a7,_⟩:=aq
   by_cases ar:m=0
   .subst ar
    have aj:I.set id (.cj (rows.take lo++List.replicate 0 (zz.cells.toList.map jl)++rows.drop (lo+0)) i.size)=I:=(by simp_all[yN])
    rw[aj]
    refine⟨.tuple #[],w,L,J,.inl ?_,h.mem,Le.refl _ _,Ext.refl _ _,[],rfl,tV⟩
    cases ad<;>simp[execOp,resolve,invoke,builtin,Builtin.clear_,run_underlying hu,hv]
   .have aa:bP (df w L I J) (List.replicate m (zz.cells.toList.map jl)).flatten (Builtin.zeroCells zz.cells m).toList:=by
     have au:eI i.size (List.replicate m (zz.cells.toList.map jl)):=λr hr=>by
      grind
     refine bP.of ?_ λj p x hp hx=> ?_
     .simp[size_zeroCells]
     .have av:j<m*i.size:=by
       have:=(A4.1 hp).1
       simp_all
      have aw:j/i.size<m:=by simp_all[C3]
      have ak:j%i.size<i.size:=Cr _ hs
      have ax:j=j/i.size*i.size+j%i.size:=by grind[D1]
      rw[ax,yQ _ _ au ak,Dv,aiv aw]at hp
      simp only[Ax,B6]at hp
      have:=Qq ah hs j av
      rw[Aq]at hx
      unfold Builtin.zeroCells at hx
      rw[ah]at hx this
      rw[this]at hx
      simp only[aiy]at hx
      rw[A0 (by simpa[ah]using ak)]at hp
      simp only[Bb,aiy]at hp
      rw[<-hp,<-hx]
      exact df.dw (GK _ (by grind)).1
    have ay:(List.replicate m (zz.cells.toList.map jl)).length=m:=sm
    obtain⟨a0,w',rfl,aE,ae,hle,af⟩:=Ys (P:=P) h.mem (p:=lo) cJ hx hv hn (r2:=List.replicate m (zz.cells.toList.map jl)) (λr hr=>by
     grind) aa (λu az=>by
      obtain⟨k,hk⟩:=Ar.1 az
      have a1:k<(List.replicate m (zz.cells.toList.map jl)).flatten.length:=by rw[aa.length];grind
      obtain⟨q,hq,rq⟩:=aa.get k _ (A0 a1)
      rw[hk]at hq;cases hq
      exact rq.dG) rfl om al om
    rw[ay]at ae af
    obtain⟨m',rfl⟩: ∃m',m=m'+1:=(by simp;omega)
    refine⟨.tuple #[],w',L,J,.inl ?_,ae,hle,af,[],rfl,tV⟩
    simp_all[execOp,resolve,invoke,builtin,Builtin.clear_,run_underlying,zeroValue,typeInfo]
  trivial
 trivial
def vM (es:aj5) (len:Nat) (I:St) (parts:List (Nat×V)):R:=
 match es with
 |some s=>if sH 0 parts=true/\parts.length=len then .dF ((∀p∈parts,(xO p.2).length=s)/\len*s<=16777216/\0<s) (.cM I.length s len 0 len) (I++ [.cj (parts.map λp=>xO p.2) s])else .fail
 |none=> .fail
theorem Yu {pos:String} (t:TypeId) (len:Nat) (ps:Array (Nat×Operand)) (h:dQ c nt e I a w L J):
  fa (vM ((eF P t).map (·.1)) len I (ps.toList.map λp=>(p.1,zG e p.2))) I (bU P c ⟨dst,.buildSlice t len ps,ty,pos,dX,g⟩ a w L I J):=by
 unfold vM
 split
 .rename_i s au
  split
  .rename_i af
   obtain⟨ho,hlen⟩:=af
   rintro⟨hp,av,hs⟩
   obtain⟨el,an⟩: ∃b,eF P t=some (s,b):=by
    simp_all
   obtain⟨el,i,z,hu,hi,hz,rfl,_,aw,_,_⟩:=qm an
   have ab:=bP.iq h ps.toList
   have ah: ∀aa,Instr.fill (λk=>some (k*i.size,i.size)) ((Array.range (len*i.size)).map (z.cells[· %z.cells.size]!)) (ps.map λ(k,x)=>(k,a.eval x)).toList=some aa->
     (Instr.buildSlice t len (ps.map λ(k,x)=>(k,a.eval x))).run P w= .ok (.slice (some ⟨w.heap.size,0,none⟩) len len) (w.alloc (.cells aa el)):=by
    intro aa hf
    by_cases h0:len*i.size=0
    .have ax:len=0:=by
      rcases Nat.mul_eq_zero.1 h0 with h|h
      all_goals omega
     simp_all[Array.eq_empty_of_size_eq_zero,Instr.buildSlice,run_underlying,sizeOf,typeInfo,newRow]
    grind[run_buildSlice]
   have ai:(ps.map λ(k,x)=>(k,a.eval x)).toList=ps.toList.map λp=>(p.1,a.eval p.2):=sm
   obtain⟨aa,hf,ay,aj⟩:=Qo (s:=i.size) _ _ 0 ((Array.range (len*i.size)).map (z.cells[· %z.cells.size]!)) [] ho hp ab (by grind) sm (by simp[bP])
   rw[<-ai]at hf
   have hr:=ah aa hf
   have ao:((ps.toList.map λp=>(p.1,zG e p.2)).map λp=>xO p.2).length=len:=by grind
   have aq:eI i.size ((ps.toList.map λp=>(p.1,zG e p.2)).map λp=>xO p.2):=λr hr=>by
    grind
   simp only[C7]at aj
   have ar:aa.size=len*i.size:=by grind
   obtain⟨ad,ak,ae⟩:=h.mem.mb (s:=i.size) (cap:=len) (arr:=aa) (T:=el) hs aq (by grind[Aa]) om om
   have al:=GW (w':=w.alloc (.cells aa el)) (L':=L) (s:=i.size) (rows:=(ps.toList.map λp=>(p.1,zG e p.2)).map λp=>xO p.2) (cap:=len) (a0:=some ⟨w.heap.size,0,none⟩) h.mem.len om sm
   rw[ao]at ad ae al
   exact⟨_,_,_,_,(by simp_all[execOp]),ad,ak,ae,al⟩
  trivial
 trivial
def yn (ks kd:Option Kd) (I:St) (x:V):R:=
 match kd,x with
 |some .bytes,.str s=>if ks=some .str then .st (.cM I.length 1 s.length 0 s.length) (I++ [.cj (zO s) 1])else .fail
 |_,_=> .fail
theorem Yv {pos:String} (t t':TypeId) (x:Operand) (h:dQ c nt e I a w L J):
  fa (yn (jJ P t) (jJ P t') I (zG e x)) I (bU P c ⟨dst,.convert t t' x,ty,pos,dX,g⟩ a w L I J):=by
 have hx:=h.eval x
 unfold yn
 split
 .rename_i s hk h1
  rw[h1]at hx
  split
  .rename_i hs
   obtain⟨el,hu,he⟩:=Mf hk
   have hr:=run_bytes_of_string (P:=P) w t t' el ⟨s.toArray⟩ (EP hs) hu he
   have hd:=h.mem.drew
   have ah:=grownCap_ge w (ByteArray.mk s.toArray).size 0 el
   generalize dq:grownCap w (ByteArray.mk s.toArray).size 0 el=cap at hr ah
   have ai:s.length<=cap:=by simpa
   generalize aj:bytesRow ⟨s.toArray⟩ cap=arr at hr
   have ak:arr.size=cap:=by grind[bytesRow,yf]
   have hl:(zO s).length=s.length:=by simp[zO]
   have ad:bP (df w.drew L I J) (zO s).flatten (arr.toList.take ((zO s).length*1)):=by
    have hb:arr.toList.take ((zO s).length*1)=byteCells ⟨s.toArray⟩:=by
     grind[bytesRow,byteCells]
    rw[hb]
    exact(IY s).imp λ_ _=>df.dw
   obtain⟨aa,ae,ab⟩:=hd.1.sy (s:=1) (cap:=cap) (arr:=arr) (T:=el) (fz:=(arr.size,arr.size+1)) ⟨λo ho q=>om,.inl rfl⟩ om (Qb s) ad om om
   have af:=GW (w':=w.drew.alloc (.cells arr el (arr.size,arr.size+1))) (L':=L) (s:=1) (rows:=zO s) (cap:=cap) (a0:=some ⟨w.drew.heap.size,0,none⟩) h.mem.len om sm
   rw[hl]at aa ab af
   refine⟨_,_,_,_,.inl ?_,aa,hd.2.trans ae,ab,af⟩
   simp only[execOp,lh hx,Sem.run_bind,hr,Result.andThen_ok,Sem.run_pure]
   rfl
  trivial
 trivial
end
end Go.Vx
