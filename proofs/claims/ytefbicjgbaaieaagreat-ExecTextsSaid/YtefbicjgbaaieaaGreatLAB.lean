/-
  Operations over trees: conversions, fields of values, function values, make; and all of them under one word.
  No condition: a library text; nothing of the program is named.
-/
import Derived.Test.YtefbicjgbaaieaaGreatLAA
set_option maxHeartbeats 8000000
namespace Go.Vx
open Go
section
variable{P:Program}{c:Ctx}{nt:Nat}{e:Env}{U:St}{a:Act}{w:World}{L:Nat->Nat}{I:ail}{o:Oper}
variable{t:TypeId}{tx:TypeId}{ty:TypeId}{el:TypeId}{cap:Nat}{x:Value}{r2:List (List V)}{i:TypeInfo}{base:Option Addr}{n:Nat}
theorem qu{s aa:Nat}(h:ec P t=some (s,aa)):∃el i z,P.underlying t=some (.slice el)/\P.info? el=some i/\i.zero=some z/\i.size=s/\i.bytes=aa/\z.cells.size=s/\0<s/\0<aa:=by
 unfold ec at h;split at h;.rename_i el hu;cases hi:P.info? el with|none=>grind|some i=>cases hz:i.zero<;>grind
 grind
def gE(rows:List (List V))(lo m:Nat):List (List V):=((rows.drop lo).take m).map λr=>r.map pT
def xB(rows:List (List V)):Bool:=rows.all λr=>r.all oz
def PL(rows:List (List V))(s' s n lo m:Nat):Prop:=s'=s/\rows.length=n/\lo+m<=n/\xB ((rows.drop lo).take m)=true
def BW(k:Nat)(U:St):V->Option (List (List V)) |.sl _ rows=>if k=2then some rows else none|.str s=>if k=1then some (zQ s)else none|.cL id _ _ lo m=>if k=2then(match U[id]?with|some (.cj rows _)=>some (gE rows lo m)|_=>none)else none|_=>none
def sM(U:St):V->Prop |.cL id s n lo m=>(match U[id]?with|some (.cj rows s')=>PL rows s' s n lo m|_=>False)|_=>True
def sN(el:Option (Nat×Nat))(k2:Nat)(U:St)(x y:V):R:=match el,BW k2 U y with |some (s,lH),some r2=>(match x with |.sl .full r1=>.dp (sM U y/\(r1.length+r2.length)*lH<=140737488355328/\eM s r1/\eM s r2) (.sl (.app U.length) (r1++r2)) (U++[.app (r1.length+r2.length) s])|.sl (.app id) r1=>(match U[id]?with |some (.app n s')=>.dp (sM U y/\r1.length=n/\s'=s/\(r1.length+r2.length)*lH<=140737488355328/\eM s r2) (.sl (.app id) (r1++r2)) (U.set id (.app (n+r2.length) s'))|_=>.fail)|.cL id s1 n lo m=>(match U[id]?with |some (.cj rows s')=>if lo+m+r2.length<=n then .dp (sM U y/\s1=s/\s'=s/\rows.length=n/\eM s r2) (.cL id s n lo (m+r2.length)) (U.set id (.cj (rows.take (lo+m)++r2++rows.drop (lo+m+r2.length)) s))else .dp (sM U y/\s1=s/\s'=s/\rows.length=n/\eM s r2/\lo=0/\m=n/\(n+r2.length)*lH<=140737488355328) (.cL id s (n+r2.length) 0 (n+r2.length)) (U.set id (.cj (rows++r2) s))|_=>.fail)|_=>.fail)|_,_=>.fail
def GC(k:Nat)(U:St):V->Option (List (List V)) |.sl _ rows=>if k=2then some rows else none|.str s=>if k=1then some (zQ s)else none|.cL id _ _ lo m=>if k=2then(match U[id]?with|some (.cj rows _)=>some ((rows.drop lo).take m)|_=>none)else none|_=>none
def BX(U:St):V->Prop |.cL id s n lo m=>(match U[id]?with|some (.cj rows s')=>s'=s/\rows.length=n/\lo+m<=n|_=>False)|_=>True
def sO(el:Option (Nat×Nat))(k2:Nat)(U:St)(x y:V):R:=match x with |.cL id s1 n lo m=>(match el,GC k2 U y with |some (s,lH),some r2=>(match U[id]?with |some (.cj rows s')=>if lo+m+r2.length<=n then .dp (BX U y/\s1=s/\s'=s/\rows.length=n/\eM s r2) (.cL id s n lo (m+r2.length)) (U.set id (.cj (rows.take (lo+m)++r2++rows.drop (lo+m+r2.length)) s))else .dp (BX U y/\s1=s/\s'=s/\rows.length=n/\eM s r2/\lo=0/\m=n/\(n+r2.length)*lH<=140737488355328) (.cL id s (n+r2.length) 0 (n+r2.length)) (U.set id (.cj (rows++r2) s))|_=>.fail)|_,_=>.fail)|x=>match el,BW k2 U y with
 |some (s,lH),some r2=>(match x with |.sl .full r1=>.dp (sM U y/\(r1.length+r2.length)*lH<=140737488355328/\eM s r1/\eM s r2/\(r2=[]->r1=[])) (.cL U.length s (r1.length+r2.length) 0 (r1.length+r2.length)) (U++[.cj (r1++r2) s])|_=>.fail)|_,_=>.fail
theorem BY{y:V}{s:Nat}(hm:Mem c w L U I)(ah:sM U y)(hy:BW (du P tx) U y=some r2)(r:dj w L U I y x)(hs:0<s)(hu:eM s r2):∃news,Src P s tx x r2.length news w/\bM (cy w L) r2.flatten news:=by
 unfold BW at hy;split at hy
 .rename_i gg rows;split at hy;.rename_i h2;cases hy;obtain⟨el,ab⟩:=uu h2;exact(sL r).src ab hs hu
  grind
 .rename_i q;split at hy
  .rename_i h1;cases hy;have h1:=IK h1;have hx:=lF r;subst hx;by_cases hq:q=[];.subst hq;refine⟨[],⟨.inr h1,λ_=>rfl,?_,?_,by simp[zQ],sm⟩,tV⟩;all_goals simp[Builtin.firstCells]
   .have au:s=1:=by obtain⟨b,rest,rfl⟩:=Cm hq;exact(hu [.int .u8 b.toNat] (by simp[zQ])).symm
    subst au;have:=Src.ofString w h1 ⟨q.toArray⟩;grind[yo,zQ,IC]
  grind
 .rename_i id s1 n lo m;split at hy
  .rename_i h2;obtain⟨el,ab⟩:=uu h2;split at hy
   .rename_i rows s' cD;cases hy;simp only[sM,cD]at ah;obtain⟨rfl,hn,aB,hp⟩:=ah;obtain⟨ad,cap,hv,aC,ai,hc⟩:=r;have aj:(gE rows lo m).length=m:=by grind[gE]
    by_cases h0:m=0
    .subst h0;have ak:gE rows lo 0=[]:=by rfl
     rw[ak,hv];cases ad with |none=>exact⟨[],Src.ofNil w ab cap,tV⟩|some ad=>exact⟨[],(by grind[Src.ofSlice]),tV⟩
    .rcases hc with hd|⟨cx,al,aD,hb⟩;.grind
     .rw[cD]at al;cases al;obtain⟨b0,c0,dd,db,aE,af⟩:=hb hn.symm;clear hb ai;have aF:0<m:=om;have an:lo<c0:=om;obtain⟨k0,rfl,rfl⟩:=af an;clear af;obtain⟨a2,a7,e1,a8,aG,ao,cK⟩:=hm.cW id _ _ cD dd;cases e1;obtain⟨b',arr,T,fz,e2,hh,_,aH,_,ag⟩:=cK (Nat.lt_of_le_of_lt (A3 _) an);cases e2;clear cK;have av:s'=s:=by have ae:0<(gE rows lo m).length:=om;have h1:=hu _ (A7 ae);grind[gE]
      subst av;have aI:=yD ao;have aw:=yD hu;rw[aj]at aw;have ax:(lo+m)*s'<=rows.length*s':=Ae _ om;rw[B0]at ax;have aJ:rows.length*s'<=arr.size:=by have:=ag.length;grind
      have aA:∀k v y,(gE rows lo m).flatten[k]?=some v->arr[lo*s'+k]?=some y->cy w L v y:=by
       intro k v y hk ay;have aq:k<m*s':=by grind
       have hi:k/s'<m:=by simp_all[C4]
       have hj:k%s'<s':=Ci _ hs;have az:k=k/s'*s'+k%s':=by grind[Cw]
       rw[az,yV _ _ hu hj]at hk;simp only[gE,B1,Aw,ahP hi,C7]at hk;have ae:lo+k/s'<rows.length:=om;rw[A0 ae]at hk;simp only[Bi,An,B1,Ar]at hk;obtain⟨v0,aK,rfl⟩:=hk;have hf:rows.flatten[(lo+k/s')*s'+k%s']?=some v0:=by rw[yV _ _ ao hj,A0 ae];grind
       obtain⟨z,hz,rz⟩:=ag.get _ _ hf;have ar:(lo+k/s')*s'+k%s'=lo*s'+k:=by grind
       rw[ar,Aw,ahP om,Am,ay]at hz;cases hz;refine cU.pT rz ?_;unfold xB at hp;rw[Aj]at hp;have aL:rows[lo+k/s']∈(rows.drop lo).take m:=by rw[Av];exact⟨k/s',by grind⟩
       grind
      have a1:((arr.toList.drop (lo*s')).take (m*s')).length=m*s':=by grind
      rw[aj,hv];have aa:bM (cy w L) (gE rows lo m).flatten ((arr.toList.drop (lo*s')).take (m*s')):=by grind[bM.of]
      refine⟨_,Src.ofSlice w ab ⟨k0,lo*s',none⟩ m cap _ a1 (λj u hj=>?_) (λu a6=>?_),aa⟩
      .rw[Aw]at hj;split at hj;.rw[C7,Am]at hj;grind[wP,World.cell?]
       grind
      .obtain⟨k,hk⟩:=Av.1 a6;have aq:k<(gE rows lo m).flatten.length:=by grind
       obtain⟨z,hz,rz⟩:=aa.get k _ (A0 aq);rw[hk]at hz;cases hz;exact rz.dF
   grind
  grind
 grind
theorem PM{y:V}{s:Nat}(hm:Mem c w L U I)(ah:BX U y)(hy:GC (du P tx) U y=some r2)(r:dj w L U I y x)(hs:0<s)(hu:eM s r2):∃news,Src P s tx x r2.length news w/\bM (cU w L U I) r2.flatten news:=by
 unfold GC at hy;split at hy
 .rename_i gg rows;split at hy;.rename_i h2;cases hy;obtain⟨el,ab⟩:=uu h2;obtain⟨news,q1,q2⟩:=(sL r).src ab hs hu;exact⟨news,q1,q2.imp λ_ _=>cU.de⟩
  grind
 .rename_i q;split at hy
  .rename_i h1;cases hy;have h1:=IK h1;have hx:=lF r;subst hx;by_cases hq:q=[];.subst hq;refine⟨[],⟨.inr h1,λ_=>rfl,?_,?_,by simp[zQ],sm⟩,tV⟩;all_goals simp[Builtin.firstCells]
   .have ar:s=1:=by obtain⟨b,rest,rfl⟩:=Cm hq;exact(hu [.int .u8 b.toNat] (by simp[zQ])).symm
    subst ar;have:=Src.ofString w h1 ⟨q.toArray⟩;rw[yo]at this;have hl:(zQ q).length=q.length:=by simp[zQ]
    exact⟨_,by grind,(IC q).imp λ_ _=>cU.de⟩
  grind
 .rename_i id s1 n lo m;split at hy
  .rename_i h2;obtain⟨el,ab⟩:=uu h2;split at hy
   .rename_i rows s' cD;cases hy;simp only[BX,cD]at ah;obtain⟨rfl,hn,aA⟩:=ah;obtain⟨ad,cap,hv,aB,ai,hc⟩:=r;have aj:((rows.drop lo).take m).length=m:=by grind
    by_cases h0:m=0;.subst h0;have ak:(rows.drop lo).take 0=[]:=sm;rw[ak,hv];cases ad with|none=>exact⟨[],Src.ofNil w ab cap,tV⟩|some ad=>exact⟨[],(by grind[Src.ofSlice]),tV⟩
    .rcases hc with hd|⟨cx,al,aC,hb⟩;.grind
     .rw[cD]at al;cases al;obtain⟨b0,c0,dd,db,aD,af⟩:=hb hn.symm;clear hb ai;have aE:0<m:=om;have an:lo<c0:=om;obtain⟨k0,rfl,rfl⟩:=af an;clear af;obtain⟨a2,a1,e1,a6,aF,ao,cK⟩:=hm.cW id _ _ cD dd;cases e1;obtain⟨b',arr,T,fz,e2,hh,_,aG,_,ag⟩:=cK (Nat.lt_of_le_of_lt (A3 _) an);cases e2;clear cK;have au:s'=s:=by have ae:0<((rows.drop lo).take m).length:=om;have h1:=hu _ (A7 ae);grind
      subst au;have aH:=yD ao;have av:=yD hu;rw[aj]at av;have aw:(lo+m)*s'<=rows.length*s':=Ae _ om;rw[B0]at aw;have aI:rows.length*s'<=arr.size:=by have:=ag.length;grind
      have a7:∀k v y,((rows.drop lo).take m).flatten[k]?=some v->arr[lo*s'+k]?=some y->cU w L U I v y:=by
       intro k v y hk aJ;have aq:k<m*s':=by grind
       have hi:k/s'<m:=by rw[C4 hs];omega
       have hj:k%s'<s':=Ci _ hs;have ax:k=k/s'*s'+k%s':=by rw[Dp];exact(Cw k s').symm
       rw[ax,yV _ _ hu hj]at hk;simp only[Aw,ahP hi,C7]at hk;have ae:lo+k/s'<rows.length:=om;rw[A0 ae]at hk;simp only[An]at hk;have hf:rows.flatten[(lo+k/s')*s'+k%s']?=some v:=by rw[yV _ _ ao hj,A0 ae];exact hk
       obtain⟨z,hz,rz⟩:=ag.get _ _ hf;have a8:(lo+k/s')*s'+k%s'=lo*s'+k:=by grind
       grind
      have ay:((arr.toList.drop (lo*s')).take (m*s')).length=m*s':=by grind
      rw[aj,hv];have aa:bM (cU w L U I) ((rows.drop lo).take m).flatten ((arr.toList.drop (lo*s')).take (m*s')):=by grind[bM.of]
      refine⟨_,Src.ofSlice w ab ⟨k0,lo*s',none⟩ m cap _ ay (λj u hj=>?_) (λu az=>?_),aa⟩
      .rw[Aw]at hj;split at hj;.rw[C7,Am]at hj;rw[wP];simp only[World.cell?,hh];grind
       grind
      .obtain⟨k,hk⟩:=Av.1 az;have aq:k<((rows.drop lo).take m).flatten.length:=by grind
       obtain⟨z,hz,rz⟩:=aa.get k _ (A0 aq);rw[hk]at hz;cases hz;exact rz.dF
   grind
  grind
 grind
theorem GD(ht:P.underlying t=some (.slice el))(hi:P.info? el=some i)(hs:Src P i.size tx x 0 [] w)(hle:n<=cap):(Builtin.append_ #[t,tx] ty #[.slice base n cap,x]).run P w=.ok (.slice base n cap) w:=by have hc:=hs.cells;have hl:=hs.len w;rcases hs.kind with⟨e',hk⟩|hk<;>cases base<;>simp[Builtin.append_,run_underlying ht,run_underlying hk,sizeOf,typeInfo,hi,hl,hle,hc,storeCells]
theorem GF{b o m:Nat}{news:ail}{arr:ain}{T:TypeId}{fz:Nat×Nat}(ht:P.underlying t=some (.slice el))(hi:P.info? el=some i)(hs:Src P i.size tx x m news w)(hle:n+m<=cap)(hh:w.heap[b]?=some (.cells arr T fz))(hf:yf arr fz)(ab:o+n*i.size+news.length<=arr.size):(Builtin.append_ #[t,tx] ty #[.slice (some ⟨b,o,none⟩) n cap,x]).run P w=.ok (.slice (some ⟨b,o,none⟩) (n+m) cap) (yU w b (.cells (xU arr (o+n*i.size) news) T fz)):=by have hc:=hs.cells;have hl:=hs.len w;have aa:=wO P b (o+n*i.size) T fz news 0 arr w hh hf om hs.one;rw[D6]at aa;rcases hs.kind with⟨e',hk⟩|hk<;>simp[Builtin.append_,run_underlying ht,run_underlying hk,sizeOf,typeInfo,hi,hl,hle,hc,wP,aa]
theorem PN{P:Program}{w:World}{L:Nat->Nat}{rows:List (List V)}{s:Nat}(ht:P.underlying t=some (.slice el))(hs:0<s)(hu:eM s rows)(r:cy w L (.sl .ro rows) (.slice base rows.length cap)):∃aa,(Builtin.firstCells s rows.length (.slice base rows.length cap)).run P w.drew=.ok aa.toArray w.drew/\bM (cy w L) rows.flatten aa/\aa.length=rows.length*s:=by obtain⟨news,h1,h2⟩:=r.src ht hs hu;exact⟨news,h1.cellsD,h2,h1.newsLen⟩
theorem Ly{z:Value}(hu:P.underlying t=some (.slice el))(hi:P.info? el=some i)(hz:i.zero=some z)(ag:z.cells.size=i.size)(ah:0<i.bytes){k:Nat}{aa news:ail}{y:Value}(hold:(Builtin.firstCells i.size n (.slice base n cap)).run P w.drew=.ok aa.toArray w.drew)(ae:aa.length=n*i.size)(ab:Src P i.size tx y k news w)(af:cap<n+k)(hbound:(n+k)*i.bytes<=140737488355328):∃(ad:Nat)(arr:ain),n+k<=ad/\ad*i.size<=arr.size/\arr.toList.take ((n+k)*i.size)=aa++news/\(Builtin.append_ #[t,tx] ty #[.slice base n cap,y]).run P w=.ok (.slice (some ⟨w.heap.size,0,none⟩) (n+k) ad) (w.drew.alloc (.cells arr el)):=by
 have hb:n+k<=140737488355328:=Ao (Nat.le_mul_of_pos_right _ ah) hbound;have hr:=run_append_grow_src (P:=P) w t tx ty el i z hu hi hz base n cap aa hold y k news ab af om (growslice_fits af hbound);have ai:=grownCap_ge w (n+k) cap el;refine⟨grownCap w (n+k) cap el,_,ai,?_,?_,hr⟩
 .have hm:grownCap w (n+k) cap el*i.size=(n+k)*i.size+(grownCap w (n+k) cap el-(n+k))*i.size:=by rw[<-B0];grind
  simp only[Array.size_append,List.size_toArray,Al,size_zeroCells,ag,ae,ab.newsLen];grind
 .rw[Array.toList_append,List.take_append_of_le_length (by simp only[Al,ae,ab.newsLen];grind)];rw[Ac (by simp only[Al,ae,ab.newsLen];grind)]
theorem PO{rows:List (List V)}{s:Nat}{a0:Option Addr}(hu:P.underlying t=some (.slice el))(cK:gN w L U I (.cj rows s) (.slice a0 rows.length cap)):∃aa,(Builtin.firstCells s rows.length (.slice a0 rows.length cap)).run P w.drew=.ok aa.toArray w.drew/\aa.length=rows.length*s/\bM (cU w L U I) rows.flatten aa:=by
 obtain⟨a',ai,e,db,hs,aj,hx⟩:=cK;cases e;by_cases h0:0<cap
 .obtain⟨b,arr,T,fz,rfl,hh,_,ak,_,ab⟩:=hx h0;have al:rows.length*s<=cap*s:=Ae _ db;have hl:(arr.toList.take (rows.length*s)).length=rows.length*s:=by grind
  have ad:=Src.ofSlice (P:=P) (size:=s) w hu ⟨b,0,none⟩ rows.length cap (arr.toList.take (rows.length*s)) hl (by grind[wP,World.cell?]) (λu ae=>by
   obtain⟨k,hk⟩:=Av.1 ae;have af:k<rows.flatten.length:=by rw[ab.length];grind
   obtain⟨z,hz,rz⟩:=ab.get k _ (A0 af);rw[hk]at hz;cases hz;exact rz.dF);exact⟨_,ad.cellsD,hl,ab⟩
 .have ag:cap=0:=om;subst ag;have ah:rows=[]:=(by grind);subst ah;cases a0 with |none=>exact⟨[],(by rfl),sm,tV⟩|some a0=>exact⟨[],(Src.ofSlice (P:=P) (size:=s) w hu a0 0 0 [] sm (λj u h=>by simp at h) (λ_ h=>by cases h)).cellsD,sm,tV⟩
theorem Lz{rows:List (List V)}{s p:Nat}(h:∀r∈rows,r.length=s)(h2:∀r∈r2,r.length=s)(hp:p+r2.length<=rows.length):(rows.take p++r2++rows.drop (p+r2.length)).flatten=putCells rows.flatten (p*s) r2.flatten:=by
 have h1:∀q,q<=rows.length->(rows.take q).flatten=rows.flatten.take (q*s):=λq hq=>by
  have e:rows.flatten=(rows.take q).flatten++(rows.drop q).flatten:=by grind[Bt]
  have hl:=yD (rows:=rows.take q) (s:=s) λr hr=>h r (C6 hr);grind
 have h3:∀q,q<=rows.length->(rows.drop q).flatten=rows.flatten.drop (q*s):=λq hq=>by
  have e:rows.flatten=(rows.take q).flatten++(rows.drop q).flatten:=by grind[Bt]
  have hl:=yD (rows:=rows.take q) (s:=s) (by grind);grind
 have aa:=yD h2;unfold putCells;rw[Ca,Ca,h1 p om,h3 _ hp,aa,B0]
theorem Xi{dst:Option Tmp}{pos:String}{dU:Array Edge}{g:Option (Nat×Bool)}(t tx:TypeId)(x y:Operand)(h:dM c nt e U a w L I):fD (sN (ec P t) (du P tx) U (zI e x) (zI e y)) U (bS P c ⟨dst,.call ⟨.builtin .append,#[x,y],#[t,tx]⟩,ty,pos,dU,g⟩ a w L U I):=by
 have hx:=h.eval x;have hy:=h.eval y;unfold sN;split
 .rename_i s bp r2 aY ax;obtain⟨el,i,z,hu,hi,hz,rfl,rfl,aJ,hs,aK⟩:=qu aY;have ak:∀{v w'},(Builtin.append_ #[t,tx] ty #[a.eval x,a.eval y]).run P w=.ok v w'->(execOp a.eval ⟨dst,.call ⟨.builtin .append,#[x,y],#[t,tx]⟩,ty,pos,dU,g⟩).run P w=.ok (.value v) w':=by simp_all[execOp,resolve,invoke,builtin]
  have grow:∀{base:Option Addr}{n cap:Nat}{r1:List (List V)},sM U (zI e y)->a.eval x=.slice base n cap->r1.length=n->cy w L (.sl .ro r1) (.slice base n cap)->eM i.size r1->eM i.size r2->cap<n+r2.length->(n+r2.length)*i.bytes<=140737488355328->∃xs ah,n+r2.length<=ah/\bM (cy w L) (r1++r2).flatten xs/\∃arr:ain,ah*i.size<=arr.size/\(∀(k:Nat) v,xs[k]?=some v->arr[k]?=some v)/\(execOp a.eval ⟨dst,.call ⟨.builtin .append,#[x,y],#[t,tx]⟩,ty,pos,dU,g⟩).run P w=.ok (.value (.slice (some ⟨w.heap.size,0,none⟩) (n+r2.length) ah)) (w.drew.alloc (.cells arr el)):=by
   intro base n cap r1 aj hv hn ay ai ae aL hbound;subst hn;obtain⟨news,ab,af⟩:=BY (P:=P) h.mem aj ax hy hs ae;obtain⟨ar,hold,av,aF⟩:=PN hu hs ai ay;have hb:r1.length+r2.length<=140737488355328:=Ao (Nat.le_mul_of_pos_right _ aK) hbound;have hr:=run_append_grow_src (P:=P) w t tx ty el i z hu hi hz base r1.length cap ar hold (a.eval y) r2.length news ab aL om (growslice_fits aL hbound);rw[<-hv]at hr;have aB:=grownCap_ge w (r1.length+r2.length) cap el;refine⟨ar++news,grownCap w (r1.length+r2.length) cap el,aB,?_,_,?_,?_,ak hr⟩;.rw[Ca];exact av.append af
   .have hm:grownCap w (r1.length+r2.length) cap el*i.size=(r1.length+r2.length)*i.size+(grownCap w (r1.length+r2.length) cap el-(r1.length+r2.length))*i.size:=by rw[<-B0];grind
    simp only[Array.size_append,List.size_toArray,Al,size_zeroCells,aJ,aF,ab.newsLen];grind
   grind
  split;·
   rename_i r1 h1;rw[h1]at hx;rintro⟨aj,hbound,ai,ae⟩;have aP:cy w L (.sl .full r1) (a.eval x):=hx;obtain⟨base,cap,hv,aG,aZ⟩:=aP.len;have db:=aZ rfl;subst db;by_cases h0:r2=[]
   .subst h0;obtain⟨news,ab,af⟩:=BY (P:=P) h.mem aj ax hy hs ae;have a6:news=[]:=B4 (by rw[ab.newsLen];simp);subst a6;have hr:=GD (P:=P) (ty:=ty) hu hi ab aG (base:=base);rw[<-hv]at hr;have aa:=h.mem.own (s:=i.size) (n:=r1.length) (a:=base) hs;refine⟨_,w,L,_,.inl (ak hr),by simpa using aa,Le.refl _ _,Ext.push _ _ h.mem.len _ _,?_⟩;rw[Ay];refine⟨cy.lE aP,r1.length,i.size,?_,om,λ_=>?_,ai⟩;.simp
    .rw[<-h.mem.len,hv];simp
   .have al:0<r2.length:=(by grind);obtain⟨xs,ah,aB,af,arr,az,aH,a7⟩:=grow aj hv rfl (by grind[cy.lE]) ai ae om hbound;have hd:=h.mem.drew;have hlen:(r1++r2).length=r1.length+r2.length:=sm;obtain⟨aa,hle,aw⟩:=hd.1.pS (s:=i.size) (cap:=ah) (rows:=r1++r2) (T:=el) hs (sI ai ae) (af.imp (by grind[cy.mono])) om az aH;rw[hlen]at aa aw;refine⟨_,_,_,_,.inl a7,aa,hd.2.trans ?_,Ext.push _ _ h.mem.len _ _,?_⟩;.grind
    .refine⟨aw,r1.length+r2.length,i.size,sm,om,λ_=>?_,sI ai ae⟩;rw[<-h.mem.len];simp
  .rename_i id r1 h1;rw[h1]at hx;split
   .rename_i n s' cD;rintro⟨aj,rfl,rfl,hbound,ae⟩;obtain⟨ay,n',s2,aQ,bn,dd,ai⟩:=hx;rw[cD]at aQ;cases aQ;have aC:=dd rfl;obtain⟨base,cap,hv,aG,_⟩:=ay.len;by_cases h0:r2=[];.subst h0;obtain⟨news,ab,af⟩:=BY (P:=P) h.mem aj ax hy hs ae;have a6:news=[]:=B4 (by rw[ab.newsLen];simp);subst a6;have hr:=GD (P:=P) (ty:=ty) hu hi ab aG (base:=base);rw[<-hv]at hr;have au:U.set id (.app (r1.length+([]:List (List V)).length) i.size)=U:=(by grind[yQ]);rw[au];refine⟨_,w,L,I,.inl (ak hr),h.mem,Le.refl _ _,Ext.refl _ _,?_⟩;rw[Ay];exact⟨ay,r1.length,i.size,cD,om,dd,ai⟩
    .have al:0<r2.length:=(by grind);have hlen:(r1++r2).length=r1.length+r2.length:=sm;have a8:id<U.length:=(by grind);by_cases ao:r1.length+r2.length<=cap;.obtain⟨a',aE,e1,ba,aR,cK⟩:=h.mem.cW id _ _ cD aC;rw[hv]at e1;cases e1;obtain⟨b,o',arr,T,fz,rfl,hh,hf,az,hL⟩:=cK om;obtain⟨news,ab,af⟩:=BY (P:=P) h.mem aj ax hy hs ae;rw[hv]at ay aC;obtain⟨bo,T',bq,bb,bc,aA,aa,hle,ag,aw⟩:=h.mem.Gw cD aC rfl ay ai ae af al ao;have hr:=GF (P:=P) (ty:=ty) hu hi ab ao bb bc aA;rw[<-hv]at hr;refine⟨_,_,_,_,(by grind),aa,hle,ag,aw,r1.length+r2.length,i.size,?_,om,λ_=>?_,sI ai ae⟩;all_goals grind
     .obtain⟨xs,ah,aB,af,arr,az,aH,a7⟩:=grow aj hv rfl (by grind) ai ae om hbound;have hd:=h.mem.drew;obtain⟨aa,hle,ag,aw⟩:=hd.1.BR (cap:=ah) (rows:=r1++r2) (arr:=arr) (T:=el) cD aC hs (sI ai ae) (af.imp (by grind[cy.mono])) om om az aH;rw[hlen]at aa ag aw hle;refine⟨_,_,_,_,.inl a7,aa,hd.2.trans hle,ag,aw,r1.length+r2.length,i.size,?_,om,λ_=>?_,sI ai ae⟩;.grind
      .rw[Bc (by rw[h.mem.len];exact a8)];rfl
   trivial
  .rename_i id s1 n lo m h1;rw[h1]at hx;obtain⟨ad,cap,hv,aS,al,hc⟩:=hx;split
   .rename_i rows s' cD;have cur:rows.length=n->∃b c0,I[id]?=some (.slice b n c0)/\cap=c0-lo/\lo<=c0/\(lo<c0->∃k,b=some ⟨k,0,none⟩/\ad=some ⟨k,lo*s1,none⟩):=(by grind);have a8:id<U.length:=(by grind);split
    .rename_i bd;rintro⟨aj,rfl,rfl,hn,ae⟩;obtain⟨b0,c0,dd,rfl,aF,an⟩:=cur hn;obtain⟨a2,aE,e1,aT,aR,a1,cK⟩:=h.mem.cW id _ _ cD dd;cases e1;clear cK cur hc;obtain⟨news,ab,af⟩:=BY (P:=P) h.mem aj ax hy hs ae;by_cases h0:r2=[];.subst h0;have a6:news=[]:=B4 (by rw[ab.newsLen];simp);subst a6;have hr:=GD (P:=P) (ty:=ty) hu hi ab aS.1 (base:=ad);rw[<-hv]at hr;have au:U.set id (.cj (rows.take (lo+m)++[]++rows.drop (lo+m+([]:List (List V)).length)) i.size)=U:=(by simp_all[yQ]);rw[au];refine⟨_,w,L,I,.inl (ak hr),h.mem,Le.refl _ _,Ext.refl _ _,?_⟩;exact⟨ad,c0-lo,hv,aS,al,(by grind)⟩
     .have br:0<r2.length:=(by grind);clear al;have bf:lo<c0:=om;obtain⟨k0,rfl,rfl⟩:=an bf;clear an;have aq:(rows.take (lo+m)++r2++rows.drop (lo+m+r2.length)).length=rows.length:=by simp;omega
      have aU:(lo+m)*i.size<=rows.length*i.size:=Ae _ om;obtain⟨arr,T,fz,hh,hf,aA,aa,hle,ag⟩:=h.mem.gD (off:=(lo+m)*i.size) (vs:=r2.flatten) (cx:=rows.take (lo+m)++r2++rows.drop (lo+m+r2.length)) cD dd om (af.imp λ_ _=>cU.de) aU (λr hr=>by
        rcases Ak.1 hr with hr|hr
        .rcases Ak.1 hr with hr|hr;.grind
         .exact ae r hr
        grind) (Lz a1 ae om) om om;have au:I.set id (.slice (some ⟨k0,0,none⟩) (rows.take (lo+m)++r2++rows.drop (lo+m+r2.length)).length c0)=I:=yQ _ _ _ (by grind);rw[au]at aa ag;have hr:=GF (P:=P) (ty:=ty) (o:=lo*i.size) (n:=m) (cap:=c0-lo) hu hi ab om hh hf (by grind);rw[<-hv,<-B0]at hr;refine⟨_,_,_,_,.inl (ak hr),aa,hle,ag,?_⟩;exact⟨_,c0-lo,rfl,om,sm,(by grind)⟩
    .rename_i bd;rintro⟨aj,rfl,rfl,hn,ae,rfl,rfl,hbound⟩;obtain⟨b0,c0,dd,bt,aF,an⟩:=cur hn;have aV:c0=cap:=om;subst aV;have aW:=h.mem.cW id _ _ cD dd;obtain⟨a2,aE,e1,aT,aR,a1,cK⟩:=aW;cases e1;clear cK cur hc al;obtain⟨news,ab,af⟩:=BY (P:=P) h.mem aj ax hy hs ae;have aq:(rows++r2).length=rows.length+r2.length:=sm;by_cases ao:rows.length+r2.length<=c0
     .have bg:0<c0:=om;obtain⟨k0,rfl,rfl⟩:=an bg;clear an;obtain⟨arr,T,fz,hh,hf,aA,aa,hle,ag⟩:=h.mem.gD (off:=rows.length*i.size) (vs:=r2.flatten) (cx:=rows++r2) cD dd om (af.imp λ_ _=>cU.de) om (sI a1 ae) (by unfold putCells;rw[Ca,Ac (by rw[yD a1];omega),Bj (by rw[yD a1];omega),Ay]) om om;rw[Cz]at hv;have hr:=GF (P:=P) (ty:=ty) (o:=0) (n:=rows.length) (cap:=c0) hu hi ab ao hh hf om;rw[<-hv,Ab]at hr;rw[aq]at aa ag;refine⟨_,_,_,_,.inl (ak hr),aa,hle,ag,?_⟩;exact⟨_,c0,rfl,om,sm,.inr ⟨_,Bc a8,om,(by grind)⟩⟩
     .obtain⟨ar,hold,aX,av⟩:=PO (P:=P) hu (h.mem.cW id _ _ cD dd);have bh:ad=b0\/c0=0:=by grind
      clear an;have aI:(Builtin.firstCells i.size rows.length (.slice ad rows.length c0)).run P w.drew=.ok ar.toArray w.drew:=by
       rcases bh with rfl|rfl;.omega
       .have bj:rows=[]:=(by grind);subst bj;have bk:ar=[]:=B4 (by grind);subst bk;cases ad with |none=>rfl|some a0=>exact(Src.ofSlice (P:=P) (size:=i.size) w hu a0 0 0 [] sm sm sm).cellsD
      obtain⟨ah,arr,aB,az,bm,hr⟩:=Ly (P:=P) (w:=w) (tx:=tx) (ty:=ty) hu hi hz aJ aK aI aX ab om hbound;rw[<-hv]at hr;have hd:=h.mem.drew;have aD:bM (cU w.drew L U I) (rows++r2).flatten (arr.toList.take ((rows++r2).length*i.size)):=by rw[aq,bm,Ca];exact(av.imp λ_ _=>cU.mono hd.2 (Ext.refl _ _)).append (af.imp λ_ _ q=>cU.de (q.mono hd.2))
      obtain⟨aa,hle,ag⟩:=hd.1.yh (cx:=rows++r2) (cap:=ah) (T:=el) cD dd hs (sI a1 ae) aD om om az;rw[aq]at aa ag;refine⟨_,_,_,_,.inl (ak hr),aa,hd.2.trans hle,ag,?_⟩;exact⟨_,ah,rfl,om,sm,.inr ⟨_,Bc a8,om,λ_=>⟨_,ah,Bc (by rw[h.mem.len];exact a8),rfl,om,sm⟩⟩⟩
   trivial
  trivial
 trivial
theorem Xj{dst:Option Tmp}{pos:String}{dU:Array Edge}{g:Option (Nat×Bool)}(t tx:TypeId)(x y:Operand)(h:dM c nt e U a w L I):fD (sO (ec P t) (du P tx) U (zI e x) (zI e y)) U (bS P c ⟨dst,.call ⟨.builtin .append,#[x,y],#[t,tx]⟩,ty,pos,dU,g⟩ a w L U I):=by
 have hx:=h.eval x;have hy:=h.eval y;unfold sO;split
 .rename_i id s1 n lo m h1;split
  .rename_i s aT r2 a7 a1;obtain⟨el,i,z,hu,hi,hz,rfl,rfl,a8,hs,aA⟩:=qu a7;have ah:∀{v w'},(Builtin.append_ #[t,tx] ty #[a.eval x,a.eval y]).run P w=.ok v w'->(execOp a.eval ⟨dst,.call ⟨.builtin .append,#[x,y],#[t,tx]⟩,ty,pos,dU,g⟩).run P w=.ok (.value v) w':=by intro v w' hr;simp[execOp,resolve,invoke,builtin,hr]
   rw[h1]at hx;obtain⟨ad,cap,hv,aG,ar,hc⟩:=hx;split
   .rename_i rows s' cD;have cur:rows.length=n->∃b c0,I[id]?=some (.slice b n c0)/\cap=c0-lo/\lo<=c0/\(lo<c0->∃k,b=some ⟨k,0,none⟩/\ad=some ⟨k,lo*s1,none⟩):=λhn=>by
     rcases hc with hd|⟨cx,aH,bg,hb⟩;.rw[cD]at hd;cases hd
     .rw[cD]at aH;cases aH;exact hb hn.symm
    have av:id<U.length:=(A5.1 cD).1;split
    .rename_i aI;rintro⟨aw,rfl,rfl,hn,aj⟩;obtain⟨b0,c0,dd,rfl,ax,af⟩:=cur hn;obtain⟨a2,aJ,e1,aK,aU,an,cK⟩:=h.mem.cW id _ _ cD dd;cases e1;clear cK cur hc;obtain⟨news,ag,ak⟩:=PM (P:=P) h.mem aw a1 hy hs aj;by_cases h0:r2=[];.subst h0;have aB:news=[]:=B4 (by rw[ag.newsLen];simp);subst aB;have hr:=GD (P:=P) (ty:=ty) hu hi ag aG.1 (base:=ad);rw[<-hv]at hr;have ay:U.set id (.cj (rows.take (lo+m)++[]++rows.drop (lo+m+([]:List (List V)).length)) i.size)=U:=yQ _ _ _ (by simp[cD]);rw[ay];refine⟨_,w,L,I,.inl (ah hr),h.mem,Le.refl _ _,Ext.refl _ _,?_⟩;exact⟨ad,c0-lo,hv,aG,ar,.inr ⟨rows,cD,D7 hn.symm,λ_=>⟨b0,c0,dd,rfl,ax,af⟩⟩⟩
     .have bh:0<r2.length:=List.length_pos_iff.2 h0;clear ar;have aV:lo<c0:=by clear af;omega
      obtain⟨k0,rfl,rfl⟩:=af aV;clear af;have aa:(rows.take (lo+m)++r2++rows.drop (lo+m+r2.length)).length=rows.length:=by simp;omega
      have aL:(lo+m)*i.size<=rows.length*i.size:=Ae _ om;obtain⟨arr,T,fz,hh,hf,au,ab,hle,ae⟩:=h.mem.gD (off:=(lo+m)*i.size) (vs:=r2.flatten) (cx:=rows.take (lo+m)++r2++rows.drop (lo+m+r2.length)) cD dd om ak aL (λr hr=>by
        rcases Ak.1 hr with hr|hr
        .rcases Ak.1 hr with hr|hr;.exact an r (C6 hr)
         .exact aj r hr
        .exact an r (Dn hr)) (Lz an aj om) (by rw[aa];exact A6 _) (by rw[aa];omega);have ay:I.set id (.slice (some ⟨k0,0,none⟩) (rows.take (lo+m)++r2++rows.drop (lo+m+r2.length)).length c0)=I:=yQ _ _ _ (by rw[aa,hn];exact dd);rw[ay]at ab ae;have hr:=GF (P:=P) (ty:=ty) (o:=lo*i.size) (n:=m) (cap:=c0-lo) hu hi ag om hh hf (by rw[B0]at au;exact au);rw[<-hv,<-B0]at hr;refine⟨_,_,_,_,.inl (ah hr),ab,hle,ae,?_⟩;exact⟨_,c0-lo,rfl,om,λ_=>⟨_,_,rfl⟩,.inr ⟨_,Bc av,by rw[aa];omega,λ_=>⟨_,c0,dd,rfl,ax,λ_=>⟨k0,rfl,rfl⟩⟩⟩⟩
    .rename_i aI;rintro⟨aw,rfl,rfl,hn,aj,rfl,rfl,hbound⟩;obtain⟨b0,c0,dd,aW,ax,af⟩:=cur hn;have aP:c0=cap:=by rw[aW,Nat.sub_zero]
     subst aP;have aQ:=h.mem.cW id _ _ cD dd;obtain⟨a2,aJ,e1,aK,aU,an,cK⟩:=aQ;cases e1;clear cK cur hc ar;obtain⟨news,ag,ak⟩:=PM (P:=P) h.mem aw a1 hy hs aj;have aa:(rows++r2).length=rows.length+r2.length:=sm;by_cases ao:rows.length+r2.length<=c0
     .have aX:0<c0:=by clear af;rw[Ab]at aI;omega
      obtain⟨k0,rfl,rfl⟩:=af aX;clear af;obtain⟨arr,T,fz,hh,hf,au,ab,hle,ae⟩:=h.mem.gD (off:=rows.length*i.size) (vs:=r2.flatten) (cx:=rows++r2) cD dd om ak (A6 _) (sI an aj) (by unfold putCells;rw[Ca,Ac (by rw[yD an];exact A6 _),Bj (by rw[yD an];omega),Ay]) (by rw[aa];omega) (by rw[aa];exact ao);rw[Cz]at hv;have hr:=GF (P:=P) (ty:=ty) (o:=0) (n:=rows.length) (cap:=c0) hu hi ag ao hh hf (by rw[Ab];exact au);rw[<-hv,Ab]at hr;rw[aa]at ab ae;refine⟨_,_,_,_,.inl (ah hr),ab,hle,ae,?_⟩;exact⟨_,c0,rfl,⟨ao,om⟩,λ_=>⟨_,_,rfl⟩,.inr ⟨_,Bc av,by rw[aa];exact A6 _,λ_=>⟨_,c0,Bc (by rw[h.mem.len];exact av),rfl,A3 _,λ_=>⟨k0,rfl,by rw[Cz]⟩⟩⟩⟩
     .obtain⟨az,hold,a6,aq⟩:=PO (P:=P) hu (h.mem.cW id _ _ cD dd);have aY:ad=b0\/c0=0:=by
       by_cases h0:0<c0;.obtain⟨k0,rfl,rfl⟩:=af h0;exact .inl (by rw[Cz])
       .exact .inr (Nat.eq_zero_of_not_pos h0)
      clear af;have aC:(Builtin.firstCells i.size rows.length (.slice ad rows.length c0)).run P w.drew=.ok az.toArray w.drew:=by
       rcases aY with rfl|rfl;.exact hold
       .have aZ:rows=[]:=B4 om;subst aZ;have ba:az=[]:=B4 (by rw[a6];simp);subst ba;cases ad with |none=>exact(Src.ofNil (P:=P) (size:=i.size) w hu 0).cellsD|some a0=>exact(Src.ofSlice (P:=P) (size:=i.size) w hu a0 0 0 [] sm (λj u h=>by simp at h) (λ_ h=>by cases h)).cellsD
      obtain⟨ai,arr,aD,aE,aF,hr⟩:=Ly (P:=P) (w:=w) (tx:=tx) (ty:=ty) hu hi hz a8 aA aC a6 ag om hbound;rw[<-hv]at hr;have hd:=h.mem.drew;have al:bM (cU w.drew L U I) (rows++r2).flatten (arr.toList.take ((rows++r2).length*i.size)):=by rw[aa,aF,Ca];exact(aq.imp λ_ _=>cU.mono hd.2 (Ext.refl _ _)).append (ak.imp λ_ _=>cU.mono hd.2 (Ext.refl _ _))
      obtain⟨ab,hle,ae⟩:=hd.1.yh (cx:=rows++r2) (cap:=ai) (T:=el) cD dd hs (sI an aj) al om om aE;rw[aa]at ab ae;refine⟨_,_,_,_,.inl (ah hr),ab,hd.2.trans hle,ae,?_⟩;exact⟨_,ai,rfl,⟨aD,om⟩,λ_=>⟨_,_,rfl⟩,.inr ⟨_,Bc av,by rw[aa];exact A6 _,λ_=>⟨_,ai,Bc (by rw[h.mem.len];exact av),rfl,A3 _,λ_=>⟨_,rfl,by rw[Cz];rfl⟩⟩⟩⟩
   .trivial
  .trivial
 split
 .rename_i s aT r2 a7 a1;obtain⟨el,i,z,hu,hi,hz,rfl,rfl,a8,hs,aA⟩:=qu a7;have ah:∀{v w'},(Builtin.append_ #[t,tx] ty #[a.eval x,a.eval y]).run P w=.ok v w'->(execOp a.eval ⟨dst,.call ⟨.builtin .append,#[x,y],#[t,tx]⟩,ty,pos,dU,g⟩).run P w=.ok (.value v) w':=by intro v w' hr;simp[execOp,resolve,invoke,builtin,hr]
  split
  .rename_i r1 h1;rw[h1]at hx;rintro⟨aw,hbound,aR,aj,bb⟩;have aS:cy w L (.sl .full r1) (a.eval x):=hx;obtain⟨base,cap,hv,bc,bd⟩:=aS.len;have db:=bd rfl;subst db;obtain⟨news,ag,ak⟩:=BY (P:=P) h.mem aw a1 hy hs aj;by_cases h0:r2=[];.have bf:=bb h0;subst h0 bf;have aB:news=[]:=B4 (by rw[ag.newsLen];simp);subst aB;have hr:=GD (P:=P) (ty:=ty) hu hi ag bc (base:=base);rw[<-hv]at hr;have ab:=h.mem.mw (s:=i.size) (a:=base) hs;refine⟨_,w,L,_,.inl (ah hr),by simpa using ab,Le.refl _ _,Ext.push _ _ h.mem.len _ _,?_⟩;refine⟨base,0,hv,⟨A6 _,A6 _⟩,λq=>by simp at q,.inr ⟨[],sm,sm,λ_=>⟨base,0,?_,rfl,A6 _,λq=>om⟩⟩⟩;rw[<-h.mem.len];simp
   .have ar:0<r2.length:=List.length_pos_iff.2 h0;obtain⟨az,hold,aq,ax⟩:=PN hu hs aR (show cy w L (.sl .ro r1) (.slice base r1.length r1.length)by rw[<-hv];exact cy.lE aS);obtain⟨ai,arr,aD,aE,aF,hr⟩:=Ly (P:=P) (w:=w) (tx:=tx) (ty:=ty) hu hi hz a8 aA hold ax ag om hbound;rw[<-hv]at hr;have hd:=h.mem.drew;have aa:(r1++r2).length=r1.length+r2.length:=sm;have al:bM (cU w.drew L U I) (r1++r2).flatten (arr.toList.take ((r1++r2).length*i.size)):=by rw[aa,aF,Ca];exact(aq.imp λ_ _ q=>cU.de (q.mono hd.2)).append (ak.imp λ_ _ q=>cU.de (q.mono hd.2))
    obtain⟨ab,hle,ae⟩:=hd.1.mu (cap:=ai) (T:=el) hs (sI aR aj) al om aE;rw[aa]at ab ae;refine⟨_,_,_,_,.inl (ah hr),ab,hd.2.trans hle,ae,?_⟩;refine⟨_,ai,rfl,⟨aD,om⟩,λ_=>⟨_,_,rfl⟩,.inr ⟨r1++r2,sm,by rw[aa];exact A6 _,λ_=>⟨_,ai,?_,rfl,A3 _,λ_=>⟨_,rfl,by rw[Cz]⟩⟩⟩⟩;rw[<-h.mem.len];simp
  .trivial
 .trivial
end
section
variable{P:Program}{c:Ctx}{nt:Nat}{e:Env}{U:St}{a:Act}{w:World}{L:Nat->Nat}{I:ail}{o:Oper}
variable{dst:Option Tmp}{ty:TypeId}{dU:Array Edge}{g:Option (Nat×Bool)}{n:Nat}{cap:Nat}
theorem PQ(arr:ain)(k:Nat):∀(vs:ail)(j:Nat)(cur:ain),(vs.zipIdx j).foldl (λcs(p:Value×Nat)=>cs.setIfInBounds (k+p.2) p.1) cur=xU cur (k+j) vs
 |[],_,_=>rfl|v::vs,j,cur=>by rw[List.zipIdx_cons,Ap,PQ arr k vs (j+1)];rfl
theorem IL{pl:Nat->Option (Nat×Nat)}{arr:ain}{i off s:Nat}{v:Value}{rest:List (Nat×Value)}(hp:pl i=some (off,s))(hs:v.cells.size=s)(hle:off+s<=arr.size):Instr.fill pl arr ((i,v)::rest)=Instr.fill pl (xU arr off v.cells.toList) rest:=by
 rw[Instr.fill];simp only[hp];have h1:(v.cells.size≠s||decide (off+v.cells.size>arr.size))=false:=by grind
 rw[ahO (by simp[hs];omega)];congr 1;rw[<-Array.foldl_toList,Array.toList_zipIdx];exact PQ arr off v.cells.toList 0 arr
def sP:Nat->List (Nat×V)->Bool |_,[]=>true|k,(i,v)::r=>i==k&&nu v&&sP (k+1) r
def uv (v:V):Bool:=(xT v).all oz
def rS (v:V):List V:=(xT v).map pT
def uw(es:aip)(len:Nat)(parts:List (Nat×V)):R:=match es with |some s=>if sP 0 parts=true/\parts.length=len then .eF ((∀p∈parts,uv p.2=true/\(xT p.2).length=s)/\len*s<=16777216/\0<s) (.sl .full (parts.map λp=>rS p.2))else .fail|none=>.fail
theorem bM.kQ{J I γ:Type}{R:γ->I->Prop}{f:J->γ}:∀{l:List J}{m:List I},bM (λx y=>R (f x) y) l m->bM R (l.map f) m |[],[],_=>trivial|_::_,_::_,h=>⟨h.1,bM.kQ h.2⟩|[],_::_,h=>h.elim|_::_,[],h=>h.elim
theorem Xk{v:V}{x:Value}(r:bM (cU w L U I) (xT v) x.cells.toList)(hp:uv v):bM (cy w L) (rS v) x.cells.toList:=by unfold uv at hp;unfold rS;refine bM.kQ ?_;revert r hp;generalize xT v=cs;generalize x.cells.toList=xs;intro r hp;induction cs generalizing xs with |nil=>cases xs<;>simpa|cons p cs ih=>cases xs with |nil=>simpa|cons y ys=>simp at hp;exact⟨cU.pT r.1 hp.1,ih _ r.2 (by grind)⟩
theorem PS{s:Nat}:∀(parts:List (Nat×V))(aa:List (Nat×Value))(k:Nat)(arr:ain)(done:List V),sP k parts=true->(∀p∈parts,uv p.2=true/\(xT p.2).length=s)->bM (λp q=>p.1=q.1/\dj w L U I p.2 q.2) parts aa->arr.size=(k+parts.length)*s->done.length=k*s->bM (cy w L) done (arr.toList.take (k*s))->∃ab,Instr.fill (λi=>some (i*s,s)) arr aa=some ab/\ab.size=arr.size/\bM (cy w L) (done++(parts.map λp=>rS p.2).flatten) ab.toList
 |[],[],k,arr,done,_,_,_,af,hd,ae=>by refine⟨arr,rfl,rfl,?_⟩;grind[Ac]|(i,v)::parts,(i',x)::aa,k,arr,done,ho,hp,⟨⟨hi,hr⟩,ag⟩,af,hd,ae=>by
  simp only[sP,A8,ahX]at ho;obtain⟨⟨rfl,ah⟩,ho⟩:=ho;have ai:=hp (i,v) sm;simp only at hi ai;subst hi;have ad:=BS hr ah;have hlen:=ad.length;simp only[Co]at hlen;have al:x.cells.size=s:=om;simp only[Af]at af;have hm:(i+(parts.length+1))*s=i*s+s+parts.length*s:=by grind
  have ao:(i+1)*s=i*s+s:=by grind
  rw[IL (s:=s) rfl al om];have aj:=Xk ad ai.1;have aq:(rS v).length=s:=by grind[rS]
  obtain⟨ab,h1,h2,h3⟩:=PS parts aa (i+1) (xU arr (i*s) x.cells.toList) (done++rS v) ho (λp an=>hp p (by simp[an])) ag (by rw[xV,af];grind) (by grind) (by
   have ak:i*s+x.cells.toList.length<=arr.size:=by grind
   have e1:(xU arr (i*s) x.cells.toList).toList.take ((i+1)*s)=arr.toList.take (i*s)++x.cells.toList:=by
    apply Bs;intro j;rw[Aw];have ar:(List.take (i*s) arr.toList).length=i*s:=by grind
    by_cases hj:j<(i+1)*s;.rw[ahP hj,Am,vw _ _ _ _ ak];grind
    grind
   rw[e1];exact ae.append aj);grind[xV]|[],_::_,_,_,_,_,_,h,_,_,_=>h.elim|_::_,[],_,_,_,_,_,h,_,_,_=>h.elim
theorem PT{s:Nat}:∀(parts:List (Nat×V))(aa:List (Nat×Value))(k:Nat)(arr:ain)(done:List V),sP k parts=true->(∀p∈parts,(xT p.2).length=s)->bM (λp q=>p.1=q.1/\dj w L U I p.2 q.2) parts aa->arr.size=(k+parts.length)*s->done.length=k*s->bM (cU w L U I) done (arr.toList.take (k*s))->∃ab,Instr.fill (λi=>some (i*s,s)) arr aa=some ab/\ab.size=arr.size/\bM (cU w L U I) (done++(parts.map λp=>xT p.2).flatten) ab.toList
 |[],[],k,arr,done,_,_,_,af,hd,ae=>by refine⟨arr,rfl,rfl,?_⟩;grind[Ac]|(i,v)::parts,(i',x)::aa,k,arr,done,ho,hp,⟨⟨hi,hr⟩,ag⟩,af,hd,ae=>by
  simp only[sP,A8,ahX]at ho;obtain⟨⟨rfl,ah⟩,ho⟩:=ho;have ai:=hp (i,v) sm;simp only at hi ai;subst hi;have ad:=BS hr ah;have hlen:=ad.length;simp only[Co]at hlen;have al:x.cells.size=s:=om;simp only[Af]at af;have hm:(i+(parts.length+1))*s=i*s+s+parts.length*s:=by grind
  have ao:(i+1)*s=i*s+s:=by grind
  rw[IL (s:=s) rfl al om];have aj:=ad;have aq:(xT v).length=s:=ai;obtain⟨ab,h1,h2,h3⟩:=PT parts aa (i+1) (xU arr (i*s) x.cells.toList) (done++xT v) ho (λp an=>hp p (by simp[an])) ag (by rw[xV,af];grind) (by grind) (by
   have ak:i*s+x.cells.toList.length<=arr.size:=by grind
   have e1:(xU arr (i*s) x.cells.toList).toList.take ((i+1)*s)=arr.toList.take (i*s)++x.cells.toList:=by
    apply Bs;intro j;rw[Aw];have ar:(List.take (i*s) arr.toList).length=i*s:=by grind
    by_cases hj:j<(i+1)*s;.rw[ahP hj,Am,vw _ _ _ _ ak];grind
    grind
   rw[e1];exact ae.append aj);grind[xV]|[],_::_,_,_,_,_,_,h,_,_,_=>h.elim|_::_,[],_,_,_,_,_,h,_,_,_=>h.elim
theorem bM.ic(h:dM c nt e U a w L I):∀(ps:List (Nat×Operand)),bM (λp q=>p.1=q.1/\dj w L U I p.2 q.2) (ps.map λp=>(p.1,zI e p.2)) (ps.map λp=>(p.1,a.eval p.2))|[]=>trivial|p::ps=>⟨⟨rfl,h.eval p.2⟩,bM.ic h ps⟩
theorem Xl{pos:String}(t:TypeId)(len:Nat)(ps:Array (Nat×Operand))(h:dM c nt e U a w L I):fD (uw ((ec P t).map (·.1)) len (ps.toList.map λp=>(p.1,zI e p.2))) U (bS P c ⟨dst,.buildSlice t len ps,ty,pos,dU,g⟩ a w L U I):=by
 unfold uw;split
 .rename_i s ak;split
  .rename_i ae;obtain⟨ho,hlen⟩:=ae;rintro⟨hp,al,hs⟩;obtain⟨el,ai⟩:∃b,ec P t=some (s,b):=by simp_all
   obtain⟨el,i,z,hu,hi,hz,rfl,_,an,_,_⟩:=qu ai;have ab:=bM.ic h ps.toList;have af:∀aa,Instr.fill (λk=>some (k*i.size,i.size)) ((Array.range (len*i.size)).map (z.cells[·%z.cells.size]!)) (ps.map λ(k,x)=>(k,a.eval x)).toList=some aa->(Instr.buildSlice t len (ps.map λ(k,x)=>(k,a.eval x))).run P w=.ok (.slice (some ⟨w.heap.size,0,none⟩) len len) (w.alloc (.cells aa el)):=by
    intro aa hf;by_cases h0:len*i.size=0
    .have ao:len=0:=by rcases Nat.mul_eq_zero.1 h0 with h|h;all_goals omega
     simp_all[Array.eq_empty_of_size_eq_zero,Instr.buildSlice,run_underlying,sizeOf,typeInfo,newRow]
    grind[run_buildSlice]
   have ag:(ps.map λ(k,x)=>(k,a.eval x)).toList=ps.toList.map λp=>(p.1,a.eval p.2):=sm;obtain⟨aa,hf,aq,ad⟩:=PS (s:=i.size) _ _ 0 ((Array.range (len*i.size)).map (z.cells[·%z.cells.size]!)) [] ho hp ab (by grind) sm (by simp[bM]);rw[<-ag]at hf;have hr:=af aa hf;have aj:((ps.toList.map λp=>(p.1,zI e p.2)).map λp=>rS p.2).length=len:=by grind
   obtain⟨h1,h2⟩:=h.mem.alloc (.cells aa el) (len*i.size);refine⟨.slice (some ⟨w.heap.size,0,none⟩) len len,_,_,I,(by simp_all[execOp]),h1,h2,Ext.refl _ _,?_⟩;have ah:cy (w.alloc (.cells aa el)) (xQ L w.heap.size (len*i.size)) (.sl .full ((ps.toList.map λp=>(p.1,zI e p.2)).map λp=>rS p.2)) (.slice (some ⟨w.heap.size,0,none⟩) ((ps.toList.map λp=>(p.1,zI e p.2)).map λp=>rS p.2).length len):=by
    refine .kP (xs:=aa.toList) hs (λr hr=>?_) (by grind[xQ]) om sm om (yR _ _) sm ?_;.obtain⟨p,ar,rfl⟩:=Aa.1 hr;grind[rS]
    .simp only[C0]at ad;exact ad.imp (by grind[cy.mono])
   rw[aj]at ah;trivial
  trivial
 trivial
def ff(P:Program)(t:TypeId):Option (List (Nat×Nat)):=match P.underlying t with |some (.struct fs)=>fs.toList.mapM λf=>(P.info? f.type).map λi=>(f.offset,i.size)|some (.array n el)=>(P.info? el).map λi=>(List.range n).map λk=>(k*i.size,i.size)|_=>none
def EL(pl:List (Nat×Nat))(cells:List V):List (Nat×V)->Option (List V) |[]=>some cells|(i,v)::r=>(match pl[i]?with |some (off,s)=>if nu v=true/\(xT v).length=s/\off+s<=cells.length then EL pl (putCells cells off (xT v)) r else none|none=>none)
def yt(zs:Option (List V))(pl:Option (List (Nat×Nat)))(parts:List (Nat×V)):R:=match zs,pl with |some z,some pl=>(match EL pl z parts with|some cs=>.ok (.agg cs)|none=>.fail)|_,_=>.fail
theorem LA{pl:List (Nat×Nat)}{ag:Nat->Option (Nat×Nat)}(ah:∀i x,pl[i]?=some x->ag i=some x):∀(parts:List (Nat×V))(aa:List (Nat×Value))(cells cs:List V)(arr:ain),EL pl cells parts=some cs->bM (λp q=>p.1=q.1/\dj w L U I p.2 q.2) parts aa->bM (cU w L U I) cells arr.toList->∃ae,Instr.fill ag arr aa=some ae/\bM (cU w L U I) cs ae.toList
 |[],[],cells,cs,arr,h,_,ab=>by simp[EL]at h;subst h;exact⟨arr,rfl,ab⟩|(i,v)::parts,(i',x)::aa,cells,cs,arr,h,⟨⟨hi,hr⟩,af⟩,ab=>by
  simp only at hi;subst hi;rw[EL]at h;split at h
  .rename_i off s hp;split at h;.rename_i hc;have ad:=BS hr hc.1;have hl:=ad.length;have ai:=ab.length;simp only[Co]at hl ai;rw[IL (s:=s) (ah _ _ hp) (by rw[<-hl];exact hc.2.1) om];exact LA ah parts aa _ cs _ h af (by grind[Pz])
   grind
  grind|[],_::_,_,_,_,_,h,_=>h.elim|_::_,[],_,_,_,_,h,_=>h.elim
theorem Xm{pos:String}(t:TypeId)(ps:Array (Nat×Operand))(h:dM c nt e U a w L I):fD (yt (gK P t) (ff P t) (ps.toList.map λp=>(p.1,zI e p.2))) U (bS P c ⟨dst,.build t ps,ty,pos,dU,g⟩ a w L U I):=by
 unfold yt;split
 .rename_i z pl hz ad;split
  .rename_i cs hf;obtain⟨i,zv,hi,ag,ah,rfl⟩:=II hz;have ab:=bM.ic h ps.toList;have ae:bM (cU w L U I) (zv.cells.toList.map jf) zv.cells.toList:=(Lw ah).imp λ_ _=>cU.de;have ai:(ps.map λ(k,x)=>(k,a.eval x)).toList=ps.toList.map λp=>(p.1,a.eval p.2):=sm;have af:∃aa,P.built t (ps.map λ(k,x)=>(k,a.eval x)).toList=some aa/\bM (cU w L U I) cs aa.toList:=by
    unfold ff at ad;unfold Program.built;rw[hi,ai];split at ad;.rename_i fs hu;simp only[hu,ag,ad];exact LA sm _ _ _ _ _ hf ab ae
    .rename_i n el hu;cases aj:P.info? el with |none=>grind|some ie=>simp only[aj,Bi,ahT]at ad;subst ad;simp only[hu,ag,aj];refine LA (λk x hk=>?_) _ _ _ _ _ hf ab ae;grind
    grind
   obtain⟨aa,hb,ak⟩:=af;refine bS.pure h (x:=.agg aa) ?_ ⟨aa.toList,sm,ak⟩;simp_all[run_build,execOp]
  trivial
 trivial
def oB(v:Option V)(d:Int):Option Int:=match v with |none=>some d|some (.int _ n)=>some n|some _=>none
def sQ(ar:Option (Nat×Nat×Bool))(k:Nat)(es:aip)(x:V)(lo hi:Option V):R:=match x with
 |.cL id s n l0 m=>(match oB lo 0,oB hi m,es with |some l,some h,some z=>if k=2then .eF (0<=l/\l<=h/\(h<=m\/(l0:Int)+h<=n)/\z=s) (.cL id s n (l0+l.toNat) (h-l).toNat)else .fail|_,_,_=>.fail)|.ptr id off=>(match lo,hi,ar with |none,none,some (n,s,_)=>.ok (.j9 id s off n)|_,_,_=>.fail)|.str s=>(match oB lo 0,oB hi s.length with |some l,some h=>if k=1then .eF (0<=l/\l<=h/\h<=s.length) (.str ((s.take h.toNat).drop l.toNat))else .fail|_,_=>.fail)|.sl _ rows=>(match oB lo 0,oB hi rows.length,es with |some l,some h,some z=>if k=2then .eF (0<=l/\l<=h/\h<=rows.length/\eM z rows) (.sl .ro ((rows.take h.toNat).drop l.toNat))else .fail|_,_,_=>.fail)|_=>.fail
theorem ux{v:Value}{k:IntKind}{i:Int}{y:Nat}{code:BoundsCode}(hv:v=.int k i)(h0:0<=i)(hy:i<=y)(w:World):(Instr.sliceBound v y code).run P w=.ok i.toNat w:=by simp_all[Instr.sliceBound,asIntOf]
theorem Xn{x:Option Operand}{d n:Int}(hb:oB (x.map (zI e)) d=some n)(h:dM c nt e U a w L I):(x=none/\n=d)\/∃p k,x=some p/\a.eval p=.int k n:=by
 unfold oB at hb;split at hb;.simp_all
 .rename_i k m hx;cases x with |none=>grind|some p=>simp at hx hb;subst hb;exact .inr ⟨p,k,rfl,yS (hx▸h.eval p)⟩
 grind
theorem IM{GG:Bool}{len l hh:Nat}{lo hi:Option Value}(aa:(lo=none/\l=0)\/∃k,lo=some (.int k l))(ab:(hi=none/\hh=len)\/∃k,hi=some (.int k hh))(h1:l<=hh)(h2:hh<=cap)(w:World):(Instr.sliceBounds GG len cap lo hi none).run P w=.ok (l,hh,cap) w:=by
 rcases aa with⟨rfl,rfl⟩|⟨k,rfl⟩<;>rcases ab with⟨rfl,rfl⟩|⟨k',rfl⟩;.rfl
 .have:=λcode=>ux (P:=P) (code:=code) (v:=.int k' hh) (y:=cap) rfl om om w;simp_all[Instr.sliceBounds]
 .have:=λcode=>ux (P:=P) (code:=code) (v:=.int k l) (y:=hh) rfl om om w;simp_all[Instr.sliceBounds]
 .have e1:=λcode=>ux (P:=P) (code:=code) (v:=.int k l) (y:=hh) rfl om om w;have e2:=λcode=>ux (P:=P) (code:=code) (v:=.int k' hh) (y:=cap) rfl om om w;simp_all[Instr.sliceBounds]
theorem Xo(s:aij)(l h:Nat):(ByteArray.mk s.toArray).extract l h=ByteArray.mk ((s.take h).drop l).toArray:=by apply ByteArray.ext;grind[ByteArray.data_extract]
theorem cy.sub{rows:List (List V)}{s l hh:Nat}{ad:Option Addr}(r:cy w L (.sl .ro rows) (.slice ad n cap))(hs:0<s)(hu:eM s rows)(h1:l<=hh)(h2:hh<=rows.length):cy w L (.sl .ro ((rows.take hh).drop l)) (.slice (if cap=l then ad else ad.map (·.add (l*s))) (hh-l) (cap-l)):=by
 have hlen:((rows.take hh).drop l).length=hh-l:=by grind
 by_cases h0:hh-l=0;.have ae:(rows.take hh).drop l=[]:=(by grind);rw[ae,h0];exact .jk _ _ _ sm sm
 .have af:rows≠[]:=(by grind);obtain⟨s',b,o',aj,e1,ag,aa,fq,db,_,hc⟩:=r.flat af;cases e1;have ah:s'=s:=by obtain⟨r0,rest,rfl⟩:=Cm af;rw[<-aa r0 sm,hu r0 sm]
  subst ah;rw[ahO om];simp only[Bi,wP];have hm:(rows.length)*s'=l*s'+(hh-l)*s'+(rows.length-hh)*s':=by rw[<-B0,<-B0];grind
  rw[<-hlen];have ab:eM s' ((rows.take hh).drop l):=λq hq=>aa q (by grind);refine .of_flat ag ab (by grind) om sm sm λk v hk=>?_;have ak:k<(hh-l)*s':=by have:=(A5.1 hk).1;rwa[yD ab,hlen]at this
  have hi:k/s'<hh-l:=by simp_all[C4]
  have hj:k%s'<s':=Ci _ ag;have ai:k=k/s'*s'+k%s':=by grind[Cw]
  rw[ai,yV _ _ ab hj]at hk;rw[C7,Aw,ahP om]at hk;have al:rows.flatten[(l+k/s')*s'+k%s']?=some v:=by rw[yV _ _ aa hj];exact hk
  grind
theorem Xp{pos:String}(t:TypeId)(x:Operand)(lo hi:Option Operand)(h:dM c nt e U a w L I):fD (sQ (iD P t) (du P t) ((ec P t).map (·.1)) (zI e x) (lo.map (zI e)) (hi.map (zI e))) U (bS P c ⟨dst,.slice t x lo hi none,ty,pos,dU,g⟩ a w L U I):=by
 have hx:=h.eval x;have conv:∀{z:Option Operand}{d n:Int}{m:Nat},oB (z.map (zI e)) d=some n->n=m->∀{dn:Nat},d=dn->((z.map a.eval)=none/\m=dn)\/∃k,(z.map a.eval)=some (.int k m):=by intro z d n m hz hn dn hd;rcases Xn hz h with⟨rfl,q⟩|⟨p,k,rfl,q⟩;all_goals grind
 unfold sQ;split
 .rename_i id s n l0 m h1;rw[h1]at hx;split
  .rename_i l hh z hl aa hz;split
   .rename_i hk;obtain⟨ai,aj⟩:=uu hk;rintro⟨a0,a1,a2,rfl⟩;have r1:=conv hl (m:=l.toNat) om (dn:=0) rfl;have r2:=conv aa (m:=hh.toNat) om (dn:=m) rfl;obtain⟨ak,ab⟩:∃b,ec P t=some (z,b):=by simp_all
    obtain⟨el,i,zz,hu,al,an,rfl,_,ao,hs,_⟩:=qu ab;obtain⟨ad,cap,hv,aw,ae,hc⟩:=hx;have aq:hh.toNat<=cap:=om;have:=IM (P:=P) (GG:=true) (len:=m) (cap:=cap) r1 r2 om aq w;refine bS.pure h (x:=.slice (if cap=l.toNat then ad else ad.map (·.add (l.toNat*i.size))) (hh.toNat-l.toNat) (cap-l.toNat)) ?_ ?_;.simp_all[execOp,Instr.sliceAt,run_underlying,Instr.slice,sizeOf,typeInfo]
    .refine⟨_,cap-l.toNat,by rw[show(hh-l).toNat=hh.toNat-l.toNat by omega],om,λhp=>?_,?_⟩;.obtain⟨b,o,rfl⟩:=ae om;rw[ahO om];simp[wP]
     .rcases hc with hd|⟨rows,cD,hn,hb⟩;.grind
      .refine .inr ⟨rows,cD,hn,λq1=>?_⟩;obtain⟨b0,c0,dd,ax,ar,af⟩:=hb q1;clear hb ae;refine⟨b0,c0,dd,om,om,λay=>?_⟩;obtain⟨k0,e1,e2⟩:=af om;simp_all[wP,B0];omega
   trivial
  trivial
 .rename_i id off h1;rw[h1]at hx;split
  .rename_i n sz ag ar az au;obtain⟨bl,hb,hv⟩:=hx;obtain⟨el,hu,ab,_⟩:=IJ au;have e1:lo=none:=by simp_all
   have e2:hi=none:=by simp_all
   subst e1 e2;refine bS.pure h (x:=.slice (some ⟨bl,off,none⟩) n n) ?_ ⟨bl,hb,rfl⟩;simp_all[execOp,Instr.sliceAt,run_underlying,Instr.sureAddr,Instr.sliceBounds,oS,wP]
  trivial
 .rename_i s h1;rw[h1]at hx;split
  .rename_i l hh hl aa;split;.rename_i hk;have hu:=IK hk;rintro⟨a0,a1,a2⟩;have r1:=conv hl (m:=l.toNat) om (dn:=0) rfl;have r2:=conv aa (m:=hh.toNat) om (dn:=s.length) rfl;refine bS.pure h (x:=.string ⟨((s.take hh.toNat).drop l.toNat).toArray⟩) ?_ (cy.str _);have:=IM (P:=P) (GG:=false) (len:=(ByteArray.mk s.toArray).size) (cap:=(ByteArray.mk s.toArray).size) r1 (by rw[yo];exact r2) om (by rw[yo];omega) w;simp[execOp,lF hx,Instr.sliceAt,run_underlying hu,Instr.slice,this,Xo]
   trivial
  trivial
 .rename_i gg rows h1;rw[h1]at hx;split
  .rename_i l hh z hl aa hz;split
   .rename_i hk;obtain⟨ai,aj⟩:=uu hk;rintro⟨a0,a1,a2,av⟩;have r1:=conv hl (m:=l.toNat) om (dn:=0) rfl;have r2:=conv aa (m:=hh.toNat) om (dn:=rows.length) rfl;obtain⟨ak,ab⟩:∃b,ec P t=some (z,b):=by simp_all
    obtain⟨el,i,zz,hu,al,an,rfl,_,ao,hs,_⟩:=qu ab;have hr:=sL hx;obtain⟨base,cap,hv,a6,_⟩:=hr.len;rw[hv]at hr;have ah:=hr.sub (l:=l.toNat) (hh:=hh.toNat) hs av om om;refine bS.pure h (x:=.slice (if cap=l.toNat then base else base.map (·.add (l.toNat*i.size))) (hh.toNat-l.toNat) (cap-l.toNat)) ?_ ah;have:=IM (P:=P) (GG:=true) (len:=rows.length) (cap:=cap) r1 r2 om om w;simp_all[execOp,Instr.sliceAt,run_underlying,Instr.slice,sizeOf,typeInfo]
   trivial
  trivial
 trivial
def yu(k:Nat)(es:aip)(U:St)(x lo:V):R:=match x,lo,es with |.sl (.app id) rows,.int _ l,some z=>(match U[id]?with |some (.app n s)=>if k=2then .dp (0<=l/\l<=rows.length/\rows.length=n/\z=s) (.sl (.app U.length) (rows.drop l.toNat)) (U.set id (.app (n+1) s)++[.app (n-l.toNat) s])else .fail|_=>.fail)|_,_,_=>.fail
theorem Ext.BZ{i s m:Nat}{x y:Value}(hi:U[i]?=some (.app n s))(dd:I[i]?=some x)(hx:∀a,x≠.pointer a)(aa:n<m):Ext U I (U.set i (.app m s)) (I.set i y):=by have ab:i<U.length:=(by grind);refine⟨(by grind),(by grind),(by grind),(by grind)⟩;all_goals grind
theorem Xq{pos:String}(t:TypeId)(x lo:Operand)(h:dM c nt e U a w L I):fD (yu (du P t) ((ec P t).map (·.1)) U (zI e x) (zI e lo)) U (bS P c ⟨dst,.slice t x (some lo) none none,ty,pos,dU,g⟩ a w L U I):=by
 have hx:=h.eval x;have ah:=h.eval lo;unfold yu;split
 .rename_i id rows kk l z h1 h2 hz;rw[h1]at hx;rw[h2]at ah;split
  .rename_i n s cD;split
   .rename_i hk;obtain⟨a7,a8⟩:=uu hk;rintro⟨a0,a1,hn,ai⟩;subst ai;obtain⟨aA,an⟩:∃b,ec P t=some (z,b):=by simp_all
    obtain⟨el,i,zz,hu,aB,aC,rfl,_,aD,hs,_⟩:=qu an;obtain⟨hr,n',s',e1,hle,ao,aq⟩:=hx;rw[cD]at e1;cases e1;have dd:=ao hn;have cK:=h.mem.cW id _ _ cD dd;obtain⟨ad,cap,hv,ar,aj,aa⟩:=cK;rw[hv]at hr dd;have aE:id<U.length:=(by grind);subst hn;have ae:=hr.sub (l:=l.toNat) (hh:=rows.length) hs aq om om;rw[Ac (A6 _)]at ae;have hb:=IM (P:=P) (GG:=true) (len:=rows.length) (cap:=cap) (l:=l.toNat) (hh:=rows.length) (lo:=some (a.eval lo)) (hi:=none) (.inr ⟨kk,by rw[yS ah];grind⟩) sm om ar w;have ab:Ext U I (U.set id (.app (rows.length+1) i.size)) (I.set id (.slice none (rows.length+1) (rows.length+1))):=(by grind[Ext.BZ]);have ak:Mem c w L (U.set id (.app (rows.length+1) i.size)) (I.set id (.slice none (rows.length+1) (rows.length+1))):=by
     refine h.mem.fe id _ _ (Le.refl _ _) ab (λ_=>False) sm sm sm rfl rfl rfl rfl h.mem.lim ?_ (λb q=>?_);.exact⟨none,_,rfl,om,aj,om⟩
     trivial
    have hex:∀b,cP (.app (rows.length-l.toNat) i.size) (.slice (if cap=l.toNat then ad else ad.map (·.add (l.toNat*i.size))) (rows.length-l.toNat) (cap-l.toNat))=some b->cP (.app rows.length i.size) (.slice ad rows.length cap)=some b:=λb q=>by
     clear aa;by_cases q1:cap=l.toNat;.rw[ahP q1]at q;cases ad<;>simp_all[cP]
     .rw[ahO q1]at q;cases ad with|none=>simpa|some a1=>
       simp only[cP,Bi]at q⊢;split at q;.rename_i q2;rw[ahP om];rw[<-q];unfold Addr.add;grind
       grind
    have au:=ak.push (.app (rows.length-l.toNat) i.size) (.slice (if cap=l.toNat then ad else ad.map (·.add (l.toNat*i.size))) (rows.length-l.toNat) (cap-l.toNat)) ⟨_,_,rfl,om,aj,λq=>by
      have q0:rows.length<cap:=om;obtain⟨b,o,arr,T,fz,rfl,hh,hf,a6,hL⟩:=aa q0;have q1:¬cap=l.toNat:=om;refine⟨b,o+l.toNat*i.size,arr,T,fz,by simp_all[wP],hh,hf,?_,?_⟩;.rw[Dt,<-B0];grind
      .rw[hL,Dt,<-B0];grind⟩ (λj o' x' b av al he af=>by
      have aw:=hex b af;rcases oR av with⟨rfl,rfl,_⟩|⟨ax,ay⟩;.rcases oR al with⟨_,rfl,_⟩|⟨q,_⟩;all_goals trivial
      .rcases oR al with⟨q,_,_⟩|⟨_,az⟩;.omega
       .exact h.mem.apart j id _ _ _ _ b ax ay az cD dd he aw) (λb af=>h.mem.fO id _ _ b cD dd (hex b af));have ag:=ab.trans (Ext.push _ _ ak.len (.app (rows.length-l.toNat) i.size) (.slice (if cap=l.toNat then ad else ad.map (·.add (l.toNat*i.size))) (rows.length-l.toNat) (cap-l.toNat)));refine⟨_,w,L,_,.inl ?_,au,Le.refl _ _,ag,ae,rows.length-l.toNat,i.size,sm,sm,λ_=>by simp[h.mem.len],(by grind)⟩;simp_all[execOp,Instr.sliceAt,run_underlying,Instr.slice,sizeOf,typeInfo]
   trivial
  trivial
 trivial
def yw(es:aip)(x lo hi mx:V):R:=match x,lo,hi,mx,es with |.sl _ rows,.int _ l,.int _ h,.int _ m,some z=>.eF (0<=l/\l<=h/\h<=rows.length/\m=h/\eM z rows) (.sl .full ((rows.take h.toNat).drop l.toNat))|.cL _ s _ _ n,.int _ l,.int _ h,.int _ m,some z=>.eF (0<=l/\l<=h/\h<=m/\m<=n/\z=s) (if l=m then .sl .full []else .u)|_,_,_,_,_=>.fail
theorem cy.full{rows:List (List V)}{ad:Option Addr}(r:cy w L (.sl .ro rows) (.slice ad n n))(hn:n=rows.length):cy w L (.sl .full rows) (.slice ad n n):=by cases r with |jk _ a cap hg ha=>exact .jk _ _ _ om sm|sl _ _ s b o cap c ha hs hlen fq db hg hc hr=>exact .sl _ rows s b o _ c sm hs hlen fq db om hc hr
theorem cy.shrink{rows:List (List V)}{s M:Nat}{base:Option Addr}(hr:cy w L (.sl .ro rows) (.slice base n cap))(hs:0<s)(ad:eM s rows)(hM:M<=rows.length):cy w L (.sl .ro (rows.take M)) (.slice base M M):=by
 have hlen:(rows.take M).length=M:=by grind
 by_cases h0:M=0;.subst h0;exact .jk _ _ _ om sm
 .have aa:rows≠[]:=(by grind);obtain⟨s',b,o',ag,q,ae,ab,fq,db,_,hc⟩:=hr.flat aa;cases q;have af:s'=s:=by obtain⟨r0,rest,rfl⟩:=Cm aa;rw[<-ab r0 sm,ad r0 sm]
  subst af;have hm:M*s'<=rows.length*s':=Ae _ hM;have key:cy w L (.sl .ro (rows.take M)) (.slice (some ⟨b,o',none⟩) (rows.take M).length M):=by refine .of_flat ae (λq hq=>ab q (by grind)) (by grind) om sm om λk v hk=>hc k v ?_;grind[Bt]
  grind
theorem Xr{pos:String}(t:TypeId)(x lo hi mx:Operand)(h:dM c nt e U a w L I):fD (yw ((ec P t).map (·.1)) (zI e x) (zI e lo) (zI e hi) (zI e mx)) U (bS P c ⟨dst,.slice t x (some lo) (some hi) (some mx),ty,pos,dU,g⟩ a w L U I):=by
 have hx:=h.eval x;have h2:=h.eval lo;have h3:=h.eval hi;have h4:=h.eval mx;unfold yw;split
 .rename_i gg rows k1 l k2 hh k3 m z e1 e2 e3 e4 hz;rw[e1]at hx;rw[e2]at h2;rw[e3]at h3;rw[e4]at h4;have e2:=yS h2;have e3:=yS h3;have e4:=yS h4;rintro⟨a0,a1,a2,rfl,af⟩;obtain⟨ag,ab⟩:∃b,ec P t=some (z,b):=by simp_all
  obtain⟨el,i,zz,hu,ah,ai,rfl,_,aj,hs,_⟩:=qu ab;have hr:=sL hx;obtain⟨base,cap,hv,al,_⟩:=hr.len;rw[hv]at hr;have ae:=hr.shrink (M:=m.toNat) hs af om;have aa:=ae.sub (l:=l.toNat) (hh:=m.toNat) hs (λq hq=>af q (by grind)) om (by grind);rw[List.take_take,Nat.min_self]at aa;refine bS.pure h (x:=.slice (if m.toNat=l.toNat then base else base.map (·.add (l.toNat*i.size))) (m.toNat-l.toNat) (m.toNat-l.toNat)) ?_ (aa.full (by grind));have b1:=λcode=>ux (P:=P) (code:=code) e2 a0 (show l<=(m.toNat:Nat)by omega) w;have b2:=λcode=>ux (P:=P) (code:=code) e3 om (show m<=(m.toNat:Nat)by omega) w;have b3:=λcode=>ux (P:=P) (code:=code) e4 om (show m<=(cap:Nat)by omega) w;simp_all[run_underlying,execOp,Instr.sliceAt,Instr.slice,Instr.sliceBounds,sizeOf,typeInfo]
 .rename_i id s n0 an n k1 l k2 hh k3 m z e1 e2 e3 e4 hz;rw[e1]at hx;rw[e2]at h2;rw[e3]at h3;rw[e4]at h4;have e2:=yS h2;have e3:=yS h3;have e4:=yS h4;rintro⟨a0,a1,a2,a3,rfl⟩;obtain⟨ag,ab⟩:∃b,ec P t=some (z,b):=by simp_all
  obtain⟨el,i,zz,hu,ah,ai,rfl,_,aj,hs,_⟩:=qu ab;obtain⟨ad,cap,hv,ak,_,_⟩:=hx;refine bS.pure h (x:=.slice (if m.toNat=l.toNat then ad else ad.map (·.add (l.toNat*i.size))) (hh.toNat-l.toNat) (m.toNat-l.toNat)) ?_ (by
   split;.have h1:hh.toNat-l.toNat=0:=om;have h2:m.toNat-l.toNat=0:=om;rw[h1,h2];exact cy.jk _ _ _ om sm
   trivial);have b1:=λcode=>ux (P:=P) (code:=code) e2 a0 (show l<=(hh.toNat:Nat)by omega) w;have b2:=λcode=>ux (P:=P) (code:=code) e3 om (show hh<=(m.toNat:Nat)by omega) w;have b3:=λcode=>ux (P:=P) (code:=code) e4 om (show m<=(cap:Nat)by have:=ak.1;omega) w;simp_all[execOp,Instr.sliceAt,run_underlying,Instr.slice,Instr.sliceBounds,sizeOf,typeInfo]
 trivial
end
section
variable{P:Program}{c:Ctx}{nt:Nat}{e:Env}{U:St}{a:Act}{w:World}{L:Nat->Nat}{I:ail}{o:Oper}
variable{dst:Option Tmp}{ty:TypeId}{dU:Array Edge}{g:Option (Nat×Bool)}{t:TypeId}
def pW:List V->UInt8|[.int _ n]=>UInt8.ofNat n.toNat|_=>0
def GH(rows:List (List V)):Prop:=∀r∈rows,∃n,r=[.int .u8 n]
theorem yY(s:aij):GH (zQ s):=λr hr=>by obtain⟨b,_,rfl⟩:=Aa.1 hr;simp
theorem yx(s:aij):(zQ s).map pW=s:=by simp[zQ,B6,pW]
def vF(ks kd:Option Kd)(x:V):R:=match kd,x with |some (.int k),.int _ n=>if ks.isSome then .ok (.int k (k.wrap n))else .fail|some .str,.str s=>if ks.isSome then .ok (.str s)else .fail|some .bytes,.str s=>if ks=some .str then .ok (.sl .ro (zQ s))else .fail|some .str,.sl _ rows=>if ks=some .bytes then .eF (GH rows) (.str (rows.map pW))else .fail|_,_=>.fail
theorem Xs{k:IntKind}(h:jI P t=some (.int k)):P.underlying t=some (.int k):=by grind[jI]
theorem EM(h:jI P t=some .str):P.underlying t=some .string:=by grind[jI]
theorem LB(h:jI P t=some .bytes):∃el,P.underlying t=some (.slice el)/\P.underlying el=some (.int .u8):=by grind[jI]
theorem PU(h:(jI P t).isSome):∃d,P.underlying t=some d:=by grind[jI]
theorem Xt{rows:List (List V)}(h:GH rows):∃xs:aim,rows=xs.map (λn=>[V.int .u8 n]):=by induction rows with |nil=>simp|cons r rows ih=>obtain⟨n,hn⟩:=h r sm;obtain⟨xs,hx⟩:=ih λq hq=>h q (by grind);exact⟨n::xs,by grind⟩
theorem Xu{pos:String}(t t':TypeId)(x:Operand)(h:dM c nt e U a w L I):fD (vF (jI P t) (jI P t') (zI e x)) U (bS P c ⟨dst,.convert t t' x,ty,pos,dU,g⟩ a w L U I):=by
 have hx:=h.eval x;unfold vF;split
 .rename_i k k' n hk h1;rw[h1]at hx;split;.rename_i hs;obtain⟨d,hd⟩:=PU hs;exact bS.pure h (x:=.int k (k.wrap n)) (by simp[execOp,yS hx,convert,run_underlying hd,run_underlying (Xs hk),Conv.intToInt]) (cy.int _ _)
  trivial
 .rename_i s hk h1;rw[h1]at hx;split;.rename_i hs;obtain⟨d,hd⟩:=PU hs;exact bS.pure h (x:=.string ⟨s.toArray⟩) (by simp[execOp,lF hx,convert,run_underlying hd,run_underlying (EM hk)]) (cy.str _)
  trivial
 .rename_i s hk h1;rw[h1]at hx;split
  .rename_i hs;obtain⟨el,hu,he⟩:=LB hk;have hr:=run_bytes_of_string (P:=P) w t t' el ⟨s.toArray⟩ (EM hs) hu he;have hd:=h.mem.drew;obtain⟨h1,h2⟩:=hd.1.alloc (.cells (bytesRow ⟨s.toArray⟩ (grownCap w (ByteArray.mk s.toArray).size 0 el)) el ((bytesRow ⟨s.toArray⟩ (grownCap w (ByteArray.mk s.toArray).size 0 el)).size,(bytesRow ⟨s.toArray⟩ (grownCap w (ByteArray.mk s.toArray).size 0 el)).size+1)) s.length;refine⟨_,_,_,I,.inl (by simp only[execOp,lF hx,Sem.run_bind,hr,Result.andThen_ok,Sem.run_pure];rfl),h1,hd.2.trans h2,Ext.refl _ _,?_⟩;have ag:=grownCap_ge w (ByteArray.mk s.toArray).size 0 el;have hl:(zQ s).length=s.length:=by simp[zQ]
   have:cy (w.drew.alloc (.cells (bytesRow ⟨s.toArray⟩ (grownCap w (ByteArray.mk s.toArray).size 0 el)) el ((bytesRow ⟨s.toArray⟩ (grownCap w (ByteArray.mk s.toArray).size 0 el)).size,(bytesRow ⟨s.toArray⟩ (grownCap w (ByteArray.mk s.toArray).size 0 el)).size+1))) (xQ L w.drew.heap.size s.length) (.sl .ro (zQ s)) (.slice (some ⟨w.drew.heap.size,0,none⟩) (zQ s).length (grownCap w (ByteArray.mk s.toArray).size 0 el)):=by refine .kP (xs:=byteCells ⟨s.toArray⟩) (s:=1) om (PA s) (by grind[xQ]) (by grind[yo]) sm sm (yR _ _) (λk v hk=>?_) (IC s);have ah:=(A5.1 hk).1;simp_all[bytesRow,Dl,byteCells]
   rw[hl,<-yo s]at this;simpa
  trivial
 .rename_i gg rows hk h1;rw[h1]at hx;split
  .rename_i hs;obtain⟨el,hu,he⟩:=LB hs;intro hb;obtain⟨xs,rfl⟩:=Xt hb;have hr:=sL hx;have ab:(xs.map λn=>[V.int .u8 n]).map pW=xs.map λn:Int=>UInt8.ofNat n.toNat:=by rw[B8];rfl
   rw[ab];refine bS.pure h (x:=.string ⟨(xs.map λn:Int=>UInt8.ofNat n.toNat).toArray⟩) ?_ (cy.str _);by_cases h0:xs=[]
   .subst h0;obtain⟨base,cap,hv,_,_⟩:=hr.len;have aa:(convert t t' (.slice base 0 cap)).run P w=.ok (.string ByteArray.empty) w:=by cases base with|none=>grind[run_convert_bytes_nil,EM]|some ad=>obtain⟨b,off,sp⟩:=ad;rw[run_convert_bytes_string w t t' el _ 0 cap hu he (EM hk),run_bytesToString w _ 0 cap [] (by simp[loadCells,loadCellsFrom])];rfl
    simp only[Bp,D8]at hv;simp only[execOp,hv,Sem.run_bind,aa,Result.andThen_ok,Sem.run_pure];rfl
   .obtain⟨s,b,o',cap,hv,ai,ae,_,_,_,hc⟩:=hr.flat (by simp_all);have af:s=1:=by obtain⟨n,rest,rfl⟩:=Cm h0;exact(ae [.int .u8 n] sm).symm
    subst af;have aa:=run_convert_bytes_arg (P:=P) w t el hu he b o' xs.length cap xs rfl (λi hi=>by
     obtain⟨y,hy,r⟩:=hc i (.int .u8 (xs.getD i 0)) (by have:=yV (rows:=xs.map λn=>[V.int .u8 n]) i 0 ae om;grind);have:y=.int .u8 (xs.getD i 0):=by cases r;rfl
     grind) t' (EM hk);simp only[Bq]at hv;simp only[execOp,hv,Sem.run_bind,aa,Result.andThen_ok,Sem.run_pure];rfl
  trivial
 trivial
def yy(fl:Option (Nat×Nat×Bool))(x:V):R:=match fl,x with |some (off,s,true),.agg cs=>if off+s<=cs.length then .ok (.agg ((cs.drop off).take s))else .fail|some (off,_,false),.agg cs=>(match cs[off]?with|some v=>.ok v|none=>.fail)|_,_=>.fail
theorem Xv{pos:String}(t:TypeId)(x:Operand)(f:Nat)(h:dM c nt e U a w L I):fD (yy (cI P t f) (zI e x)) U (bS P c ⟨dst,.field t x f,ty,pos,dU,g⟩ a w L U I):=by
 have hx:=h.eval x;unfold yy;split
 .rename_i off s cs hf h1;rw[h1]at hx;split;.rename_i hle;obtain⟨xs,hv,aa⟩:=hx;obtain⟨fs,fd,hu,ab,rfl,hs,hb,h0⟩:=Lt hf;have hl:=aa.length;refine bS.pure h (x:=.agg ((xs.drop fd.offset).take s).toArray) ?_ ⟨_,rfl,(aa.drop _).take _⟩;simp_all[execOp,Instr.field,run_underlying,asAgg,part,ur,oS]
  trivial
 .rename_i off s cs hf h1;rw[h1]at hx;split;.rename_i v ad;obtain⟨xs,hv,aa⟩:=hx;obtain⟨fs,fd,hu,ab,rfl,hs,hb,h0⟩:=Lt hf;obtain⟨y,hy,r⟩:=aa.get _ _ ad;refine bS.pure h (x:=y) ?_ (dj.dv r);simp_all[execOp,Instr.field,run_underlying,asAgg,part,ur]
  trivial
 trivial
def GI(v:V):Bool:=oz v||(match v with|.ptr _ _|.oQ _ _|.cL _ _ _ _ _|.jj _ _ _ _ _|.j9 _ _ _ _|.mp _=>true|_=>false)
theorem Xw{v:V}{x:Value}(r:dj w L U I v x)(h:GI v):gC w L U I v x:=by cases v<;>first|exact r|simp[GI,oz]at h
def yz(fn:Fn)(first:Nat)(bY:List V):R:=match fn with |.func f=>if first=0/\bY.all GI=true then .ok (.fn f bY)else .fail|_=>.fail
theorem Xx{pos:String}(fn:Fn)(first bY:Array Operand)(h:dM c nt e U a w L I):fD (yz fn first.size (bY.toList.map (zI e))) U (bS P c ⟨dst,.makeFunc fn first bY,ty,pos,dU,g⟩ a w L U I):=by
 unfold yz;split
 .rename_i f;split
  .rename_i hc;obtain⟨h0,hk⟩:=hc;have hf:first=#[]:=(by grind);subst hf;refine bS.pure h (x:=.func (.func f) #[] (bY.toList.map a.eval).toArray) (by simp[execOp,Instr.makeFunc];grind) ⟨_,rfl,?_⟩;have:∀l:List Operand,(l.map (zI e)).all GI=true->bM (gC w L U I) (l.map (zI e)) (l.map a.eval):=by intro l;induction l with |nil=>intro _;trivial|cons p l ih=>intro hl;simp at hl;exact⟨Xw (h.eval p) hl.1,(by grind)⟩
   grind
  trivial
 trivial
def iP(P:Program)(t:TypeId):Option (List V):=match P.underlying t with |some (.slice el)=>gK P el|_=>none
def vG(el:Option (Nat×Nat))(zs:Option (List V))(U:St)(l m:V):R:=match el,zs,l,m with |some (s,lH),some z,.int .i64 n,.int .i64 k=>.dp (0<=n/\n<=k/\k.toNat*lH<=140737488355328) (.sl (.app U.length) (List.replicate n.toNat z)) (U++[.app n.toNat s])|_,_,_,_=>.fail
theorem PV{z:ain}{s N:Nat}(hz:z.size=s)(hs:0<s)(k:Nat)(hk:k<N*s):((Array.range (N*s)).map (z[·%z.size]!))[k]?=some (z.toList[k%s]'(by simp_all[Ci])):=by grind
theorem PX{s ab:Nat}{z:List V}{n k:Int}(ak:ec P t=some (s,ab))(hz:iP P t=some z)(h0:0<=n)(hle:n<=k)(hb:k.toNat*ab<=140737488355328)(w:World)(L:Nat->Nat):∃(el:TypeId)(cells:ain),(Instr.makeSlice t (.int .i64 n) (.int .i64 k)).run P w=.ok (.slice (some ⟨w.heap.size,0,none⟩) n.toNat k.toNat) (w.alloc (.cells cells el))/\cells.size=k.toNat*s/\0<s/\eM s (List.replicate n.toNat z)/\bM (cy w L) (List.replicate n.toNat z).flatten (cells.toList.take (n.toNat*s)):=by
 obtain⟨el,i,zz,hu,hi,ad,rfl,rfl,al,hs,an⟩:=qu ak;unfold iP at hz;rw[hu]at hz;obtain⟨i',a7,ae,aa,az,rfl⟩:=II hz;rw[hi]at ae;cases ae;rw[ad]at aa;cases aa;have hk:k.toNat<=140737488355328:=Ao (Nat.le_mul_of_pos_right _ an) hb;have af:IntKind.i64.wrap n=n:=by grind[IntKind.wrap_i64]
 have ag:IntKind.i64.wrap k=k:=by grind[IntKind.wrap_i64]
 have ao:(i.bytes:Int)*k=((k.toNat*i.bytes:Nat):Int):=by grind
 have ah:¬(281474976710656<(i.bytes:Int)*k):=om;have q1:¬k<0:=om;have q2:¬n<0:=om;have q3:¬k<n:=by omega
 let cells:ain:=(Array.range (k.toNat*i.size)).map (zz.cells[·%zz.cells.size]!);have a1:(Instr.makeSlice t (.int .i64 n) (.int .i64 k)).run P w=.ok (.slice (some ⟨w.heap.size,0,none⟩) n.toNat k.toNat) (w.alloc (.cells cells el)):=by
  by_cases ai:k.toNat*i.size=0
  .have:∀f:Nat->Value,(Array.range 0).map f=#[]:=sm;have aq:cells=#[]:=by grind
   rw[aq];simp[Instr.makeSlice,run_underlying hu,asInt,asIntOf,typeInfo,hi,af,ag,ah,q1,q2,q3,sizeOf,ai,newRow,this]
  .simp[Instr.makeSlice,run_underlying hu,asInt,asIntOf,typeInfo,hi,af,ag,ah,q1,q2,q3,sizeOf,ai,newRow,zeroValue,ad,cells]
 have ar:zz.cells.toList.length=i.size:=om;have au:eM i.size (List.replicate n.toNat (zz.cells.toList.map jf)):=λr hr=>by grind
 have av:n.toNat<=k.toNat:=om;have hmul:n.toNat*i.size<=k.toNat*i.size:=Ae _ av;have hlen:(List.replicate n.toNat (zz.cells.toList.map jf)).length=n.toNat:=sm;have a6:bM (cy w L) (List.replicate n.toNat (zz.cells.toList.map jf)).flatten (cells.toList.take (n.toNat*i.size)):=by
  refine bM.of ?_ λj p x hp hx=>?_;.grind[yD]
  .have aw:j<n.toNat*i.size:=by grind
   have ax:j/i.size<n.toNat:=by rw[C4 hs];omega
   have aj:j%i.size<i.size:=Ci _ hs;have ay:j=j/i.size*i.size+j%i.size:=by grind[Cw]
   rw[ay,yV _ _ au aj,List.getElem?_replicate,ahP ax]at hp;simp only[An,B1]at hp;rw[Aw,ahP aw,Am]at hx;have:=PV al hs j (show j<k.toNat*i.size by omega);simp only[cells]at hx;rw[this]at hx;simp only[ahT]at hx;rw[A0 (by rw[ar];exact aj)]at hp;simp only[Bi,ahT]at hp;rw[<-hp,<-hx];exact(Gx _ (by grind)).1
 grind
theorem Xy{pos:String}(t:TypeId)(l m:Operand)(h:dM c nt e U a w L I):fD (vG (ec P t) (iP P t) U (zI e l) (zI e m)) U (bS P c ⟨dst,.makeSlice t l m,ty,pos,dU,g⟩ a w L U I):=by
 have hl:=h.eval l;have hm:=h.eval m;unfold vG;split;.rename_i s ai z n k ag hz e1 e2;rw[e1]at hl;rw[e2]at hm;have e1:=yS hl;have e2:=yS hm;rintro⟨h0,hle,hb⟩;obtain⟨el,cells,ah,aj,hs,ad,ae⟩:=PX ag hz h0 hle hb w L;have hlen:(List.replicate n.toNat z).length=n.toNat:=sm;obtain⟨aa,ab,af⟩:=h.mem.pS (s:=s) (cap:=k.toNat) (arr:=cells) (T:=el) hs ad ae om om (by grind);rw[hlen]at aa af ab;refine⟨_,_,_,_,(by grind[execOp,Sem.run_bind,Result.andThen_ok,Sem.run_pure]),aa,ab,Ext.push _ _ h.mem.len _ _,af,n.toNat,s,sm,om,λ_=>?_,ad⟩;rw[<-h.mem.len];simp
 trivial
def vH(el:Option (Nat×Nat))(zs:Option (List V))(U:St)(l m:V):R:=match el,zs,l,m with |some (s,lH),some z,.int .i64 n,.int .i64 k=>.dp (0<=n/\n<=k/\k.toNat*lH<=140737488355328) (.cL U.length s n.toNat 0 n.toNat) (U++[.cj (List.replicate n.toNat z) s])|_,_,_,_=>.fail
theorem GJ{w':World}{L':Nat->Nat}{rows:List (List V)}{s cap:Nat}{a0:Option Addr}(hl:I.length=U.length)(db:rows.length<=cap)(ha:0<cap->∃b,a0=some ⟨b,0,none⟩):dj w' L' (U++[.cj rows s]) (I++[.slice a0 rows.length cap]) (.cL U.length s rows.length 0 rows.length) (.slice a0 rows.length cap):=by refine⟨a0,cap,rfl,om,λhp=>?_,.inr ⟨rows,sm,om,λ_=>⟨a0,cap,?_,rfl,om,λhp=>?_⟩⟩⟩;all_goals grind
theorem Xz{pos:String}(t:TypeId)(l m:Operand)(h:dM c nt e U a w L I):fD (vH (ec P t) (iP P t) U (zI e l) (zI e m)) U (bS P c ⟨dst,.makeSlice t l m,ty,pos,dU,g⟩ a w L U I):=by
 have hl:=h.eval l;have hm:=h.eval m;unfold vH;split;.rename_i s aj z n k ag hz e1 e2;rw[e1]at hl;rw[e2]at hm;have e1:=yS hl;have e2:=yS hm;rintro⟨h0,hle,hb⟩;obtain⟨el,cells,ai,ak,hs,ah,ad⟩:=PX ag hz h0 hle hb w L;have hlen:(List.replicate n.toNat z).length=n.toNat:=sm;obtain⟨aa,ae,ab⟩:=h.mem.mu (s:=s) (cap:=k.toNat) (arr:=cells) (T:=el) hs ah (by rw[hlen];exact ad.imp λ_ _=>cU.de) om om;have af:=GJ (w':=w.alloc (.cells cells el)) (L':=L) (s:=s) (rows:=List.replicate n.toNat z) (cap:=k.toNat) (a0:=some ⟨w.heap.size,0,none⟩) h.mem.len om sm;rw[hlen]at aa ab af;exact⟨_,_,_,_,(by grind[execOp,Sem.run_bind,Result.andThen_ok,Sem.run_pure]),aa,ae,ab,af⟩
 trivial
theorem XA(h:Mem c w L U I){id s p:Nat}{rows r2:List (List V)}{ad:Option Addr}{lo n m cap:Nat}{x:Value}(cD:U[id]?=some (.cj rows s))(hx:dj w L U I (.cL id s n lo m) x)(hv:x=.slice ad m cap)(hn:rows.length=n)(ab:eM s r2){news:ail}(ae:bM (cU w L U I) r2.flatten news)(af:∀u∈news,u.oneCell')(hp:p=lo)(hk:r2.length<=m)(ax:lo+m<=n)(aq:0<r2.length):∃a0 w',ad=some a0/\(storeCells a0 news 0).run P w=.ok () w'/\Mem c w' L (U.set id (.cj (rows.take p++r2++rows.drop (p+r2.length)) s)) I/\Le w L w' L/\Ext U I (U.set id (.cj (rows.take p++r2++rows.drop (p+r2.length)) s)) I:=by
 subst hp;obtain⟨ay,ar,e0,az,_,hc⟩:=hx;rw[hv]at e0;cases e0;rcases hc with hd|⟨cx,ag,a1,hb⟩;.grind
 .rw[cD]at ag;cases ag;obtain⟨b0,c0,dd,a6,a7,aa⟩:=hb hn.symm;have al:p<c0:=om;obtain⟨k0,rfl,rfl⟩:=aa al;clear hb aa;obtain⟨a2,au,e1,av,a8,an,_⟩:=h.cW id _ _ cD dd;cases e1;have ao:(rows.take p++r2++rows.drop (p+r2.length)).length=rows.length:=by grind
  have ah:p*s<=rows.length*s:=Ae _ om;obtain⟨arr,T,fz,hh,hf,aw,ai,hle,aj⟩:=h.gD (off:=p*s) (vs:=r2.flatten) (cx:=rows.take p++r2++rows.drop (p+r2.length)) cD dd om ae ah (λr hr=>by
    rcases Ak.1 hr with hr|hr
    .rcases Ak.1 hr with hr|hr;.grind
     .exact ab r hr
    grind) (Lz an ab om) om om;have ak:I.set id (.slice (some ⟨k0,0,none⟩) (rows.take p++r2++rows.drop (p+r2.length)).length c0)=I:=(by grind[yQ]);rw[ak]at ai aj;have aA:=wO P k0 (p*s) T fz news 0 arr w hh hf om af;grind
def vI(sl:aip)(zs:Option (List V))(U:St)(x:V):R:=match zs,x with |some z,.cL id s n lo m=>(match U[id]?with |some (.cj rows s')=>.dp (sl=some s/\s'=s/\rows.length=n/\lo+m<=n) (.cm []) (U.set id (.cj (rows.take lo++List.replicate m z++rows.drop (lo+m)) s))|_=>.fail)|_,_=>.fail
theorem XB{pos:String}(t:TypeId)(x:Operand)(h:dM c nt e U a w L I):fD (vI ((ec P t).map (·.1)) (iP P t) U (zI e x)) U (bS P c ⟨dst,.call ⟨.builtin .clear,#[x],#[t]⟩,ty,pos,dU,g⟩ a w L U I):=by
 have hx:=h.eval x;unfold vI;split
 .rename_i z id s n lo m hz h1;rw[h1]at hx;split
  .rename_i rows s' cD;rintro⟨a7,rfl,hn,ak⟩;obtain⟨a8,al⟩:∃b,ec P t=some (s',b):=by simp_all
   obtain⟨el,i,zz,hu,hi,an,rfl,rfl,ag,hs,aA⟩:=qu al;unfold iP at hz;rw[hu]at hz;obtain⟨i',aB,ah,ab,a1,rfl⟩:=II hz;rw[hi]at ah;cases ah;rw[an]at ab;cases ab;have ao:=hx;obtain⟨ad,cap,hv,aC,a6,_⟩:=ao;by_cases aq:m=0;.subst aq;have ai:U.set id (.cj (rows.take lo++List.replicate 0 (zz.cells.toList.map jf)++rows.drop (lo+0)) i.size)=U:=(by simp_all[yQ]);rw[ai];refine⟨.tuple #[],w,L,I,.inl ?_,h.mem,Le.refl _ _,Ext.refl _ _,[],rfl,tV⟩;cases ad<;>simp[execOp,resolve,invoke,builtin,Builtin.clear_,run_underlying hu,hv]
   .have aa:bM (cU w L U I) (List.replicate m (zz.cells.toList.map jf)).flatten (Builtin.zeroCells zz.cells m).toList:=by
     have ar:eM i.size (List.replicate m (zz.cells.toList.map jf)):=λr hr=>by grind
     refine bM.of ?_ λj p x hp hx=>?_;.simp[size_zeroCells]
     .have au:j<m*i.size:=by have:=(A5.1 hp).1;simp_all
      have av:j/i.size<m:=by simp_all[C4]
      have aj:j%i.size<i.size:=Ci _ hs;have aw:j=j/i.size*i.size+j%i.size:=by grind[Cw]
      rw[aw,yV _ _ ar aj,List.getElem?_replicate,ahP av]at hp;simp only[An,B1]at hp;have:=PV ag hs j au;rw[Am]at hx;unfold Builtin.zeroCells at hx;rw[ag]at hx this;rw[this]at hx;simp only[ahT]at hx;rw[A0 (by simpa[ag]using aj)]at hp;simp only[Bi,ahT]at hp;rw[<-hp,<-hx];exact cU.de (Gx _ (by grind)).1
    have ax:(List.replicate m (zz.cells.toList.map jf)).length=m:=sm;obtain⟨a0,w',rfl,aD,ae,hle,af⟩:=XA (P:=P) h.mem (p:=lo) cD hx hv hn (r2:=List.replicate m (zz.cells.toList.map jf)) (λr hr=>by grind) aa (λu ay=>by
      obtain⟨k,hk⟩:=Av.1 ay;have az:k<(List.replicate m (zz.cells.toList.map jf)).flatten.length:=by rw[aa.length];grind
      obtain⟨q,hq,rq⟩:=aa.get k _ (A0 az);rw[hk]at hq;cases hq;exact rq.dF) rfl om ak om;rw[ax]at ae af;obtain⟨m',rfl⟩:∃m',m=m'+1:=(by simp;omega);refine⟨.tuple #[],w',L,I,.inl ?_,ae,hle,af,[],rfl,tV⟩;simp_all[execOp,resolve,invoke,builtin,Builtin.clear_,run_underlying,zeroValue,typeInfo]
  trivial
 trivial
def uy(es:aip)(len:Nat)(U:St)(parts:List (Nat×V)):R:=match es with |some s=>if sP 0 parts=true/\parts.length=len then .dp ((∀p∈parts,(xT p.2).length=s)/\len*s<=16777216/\0<s) (.cL U.length s len 0 len) (U++[.cj (parts.map λp=>xT p.2) s])else .fail|none=>.fail
theorem XC{pos:String}(t:TypeId)(len:Nat)(ps:Array (Nat×Operand))(h:dM c nt e U a w L I):fD (uy ((ec P t).map (·.1)) len U (ps.toList.map λp=>(p.1,zI e p.2))) U (bS P c ⟨dst,.buildSlice t len ps,ty,pos,dU,g⟩ a w L U I):=by
 unfold uy;split
 .rename_i s ar;split
  .rename_i af;obtain⟨ho,hlen⟩:=af;rintro⟨hp,au,hs⟩;obtain⟨el,al⟩:∃b,ec P t=some (s,b):=by simp_all
   obtain⟨el,i,z,hu,hi,hz,rfl,_,av,_,_⟩:=qu al;have ab:=bM.ic h ps.toList;have ag:∀aa,Instr.fill (λk=>some (k*i.size,i.size)) ((Array.range (len*i.size)).map (z.cells[·%z.cells.size]!)) (ps.map λ(k,x)=>(k,a.eval x)).toList=some aa->(Instr.buildSlice t len (ps.map λ(k,x)=>(k,a.eval x))).run P w=.ok (.slice (some ⟨w.heap.size,0,none⟩) len len) (w.alloc (.cells aa el)):=by
    intro aa hf;by_cases h0:len*i.size=0
    .have aw:len=0:=by rcases Nat.mul_eq_zero.1 h0 with h|h;all_goals omega
     simp_all[Array.eq_empty_of_size_eq_zero,Instr.buildSlice,run_underlying,sizeOf,typeInfo,newRow]
    grind[run_buildSlice]
   have ah:(ps.map λ(k,x)=>(k,a.eval x)).toList=ps.toList.map λp=>(p.1,a.eval p.2):=sm;obtain⟨aa,hf,ax,ai⟩:=PT (s:=i.size) _ _ 0 ((Array.range (len*i.size)).map (z.cells[·%z.cells.size]!)) [] ho hp ab (by grind) sm (by simp[bM]);rw[<-ah]at hf;have hr:=ag aa hf;have an:((ps.toList.map λp=>(p.1,zI e p.2)).map λp=>xT p.2).length=len:=by grind
   have ao:eM i.size ((ps.toList.map λp=>(p.1,zI e p.2)).map λp=>xT p.2):=λr hr=>by grind
   simp only[C0]at ai;have aq:aa.size=len*i.size:=by grind
   obtain⟨ad,aj,ae⟩:=h.mem.mu (s:=i.size) (cap:=len) (arr:=aa) (T:=el) hs ao (by grind[Ac]) om om;have ak:=GJ (w':=w.alloc (.cells aa el)) (L':=L) (s:=i.size) (rows:=(ps.toList.map λp=>(p.1,zI e p.2)).map λp=>xT p.2) (cap:=len) (a0:=some ⟨w.heap.size,0,none⟩) h.mem.len om sm;rw[an]at ad ae ak;exact⟨_,_,_,_,(by simp_all[execOp]),ad,aj,ae,ak⟩
  trivial
 trivial
def y4(ks kd:Option Kd)(U:St)(x:V):R:=match kd,x with |some .bytes,.str s=>if ks=some .str then .st (.cL U.length 1 s.length 0 s.length) (U++[.cj (zQ s) 1])else .fail|_,_=>.fail
theorem XD{pos:String}(t t':TypeId)(x:Operand)(h:dM c nt e U a w L I):fD (y4 (jI P t) (jI P t') U (zI e x)) U (bS P c ⟨dst,.convert t t' x,ty,pos,dU,g⟩ a w L U I):=by
 have hx:=h.eval x;unfold y4;split
 .rename_i s hk h1;rw[h1]at hx;split
  .rename_i hs;obtain⟨el,hu,he⟩:=LB hk;have hr:=run_bytes_of_string (P:=P) w t t' el ⟨s.toArray⟩ (EM hs) hu he;have hd:=h.mem.drew;have ag:=grownCap_ge w (ByteArray.mk s.toArray).size 0 el;generalize db:grownCap w (ByteArray.mk s.toArray).size 0 el=cap at hr ag;have ah:s.length<=cap:=by simpa
   generalize ai:bytesRow ⟨s.toArray⟩ cap=arr at hr;have aj:arr.size=cap:=by grind[bytesRow,yo]
   have hl:(zQ s).length=s.length:=by simp[zQ]
   have ad:bM (cU w.drew L U I) (zQ s).flatten (arr.toList.take ((zQ s).length*1)):=by
    have hb:arr.toList.take ((zQ s).length*1)=byteCells ⟨s.toArray⟩:=by grind[bytesRow,byteCells]
    rw[hb];exact(IC s).imp λ_ _=>cU.de
   obtain⟨aa,ae,ab⟩:=hd.1.sK (s:=1) (cap:=cap) (arr:=arr) (T:=el) (fz:=(arr.size,arr.size+1)) ⟨λo ho q=>om,.inl rfl⟩ om (PA s) ad om om;have af:=GJ (w':=w.drew.alloc (.cells arr el (arr.size,arr.size+1))) (L':=L) (s:=1) (rows:=zQ s) (cap:=cap) (a0:=some ⟨w.drew.heap.size,0,none⟩) h.mem.len om sm;rw[hl]at aa ab af;refine⟨_,_,_,_,.inl ?_,aa,hd.2.trans ae,ab,af⟩;simp only[execOp,lF hx,Sem.run_bind,hr,Result.andThen_ok,Sem.run_pure];rfl
  trivial
 trivial
end
end Go.Vx
