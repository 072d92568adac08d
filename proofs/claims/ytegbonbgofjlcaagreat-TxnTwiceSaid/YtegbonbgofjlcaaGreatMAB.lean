/-
  Operations over trees: conversions, fields of values, function values, make; and all of them under one word.
  No condition: a library text; nothing of the program is named.
-/
import Derived.Test.YtegbonbgofjlcaaGreatMAA
set_option maxHeartbeats 8000000
namespace Go.Vx
open Go
section
variable{P:Program}{c:Ctx}{nt:Nat}{e:Env}{I:St}{a:Act}{w:World}{L:Nat->Nat}{J:alY}{o:Oper}
variable{t:TypeId}{tx:TypeId}{ty:TypeId}{el:TypeId}{cap:Nat}{x:Value}{r2:List (List V)}{i:TypeInfo}{base:Option Addr}{n:Nat}
theorem rD{s aa:Nat}(h:eV P t=some (s,aa)):∃el i z,P.underlying t=some (.slice el)/\P.info? el=some i/\i.zero=some z/\i.size=s/\i.bytes=aa/\z.cells.size=s/\0<s/\0<aa:=by
 unfold eV at h;split at h;.rename_i el hu;cases hi:P.info? el with|none=>grind|some i=>cases hz:i.zero<;>grind
 grind
def wU(rows:List (List V))(lo m:Nat):List (List V):=((rows.drop lo).take m).map λr=>r.map lS
def xB(rows:List (List V)):Bool:=rows.all λr=>r.all o7
def R7(rows:List (List V))(s' s n lo m:Nat):Prop:=s'=s/\rows.length=n/\lo+m<=n/\xB ((rows.drop lo).take m)=true
def Eo(k:Nat)(I:St):V->Option (List (List V)) |.sl _ rows=>if k=2then some rows else none|.str s=>if k=1then some (zU s)else none|.cS id _ _ lo m=>if k=2then(match I[id]?with|some (.cv rows _)=>some (wU rows lo m)|_=>none)else none|_=>none
def tR(I:St):V->Prop |.cS id s n lo m=>(match I[id]?with|some (.cv rows s')=>R7 rows s' s n lo m|_=>False)|_=>True
def tS(el:Option (Nat×Nat))(k2:Nat)(I:St)(x y:V):R:=match el,Eo k2 I y with |some (s,lW),some r2=>(match x with |.sl .full r1=>.dR (tR I y/\(r1.length+r2.length)*lW<=140737488355328/\eU s r1/\eU s r2) (.sl (.app I.length) (r1++r2)) (I++[.app (r1.length+r2.length) s])|.sl (.app id) r1=>(match I[id]?with |some (.app n s')=>.dR (tR I y/\r1.length=n/\s'=s/\(r1.length+r2.length)*lW<=140737488355328/\eU s r2) (.sl (.app id) (r1++r2)) (I.set id (.app (n+r2.length) s'))|_=>.fail)|.cS id s1 n lo m=>(match I[id]?with |some (.cv rows s')=>if lo+m+r2.length<=n then .dR (tR I y/\s1=s/\s'=s/\rows.length=n/\eU s r2) (.cS id s n lo (m+r2.length)) (I.set id (.cv (rows.take (lo+m)++r2++rows.drop (lo+m+r2.length)) s))else .dR (tR I y/\s1=s/\s'=s/\rows.length=n/\eU s r2/\lo=0/\m=n/\(n+r2.length)*lW<=140737488355328) (.cS id s (n+r2.length) 0 (n+r2.length)) (I.set id (.cv (rows++r2) s))|_=>.fail)|_=>.fail)|_,_=>.fail
def H9(k:Nat)(I:St):V->Option (List (List V)) |.sl _ rows=>if k=2then some rows else none|.str s=>if k=1then some (zU s)else none|.cS id _ _ lo m=>if k=2then(match I[id]?with|some (.cv rows _)=>some ((rows.drop lo).take m)|_=>none)else none|_=>none
def Ep(I:St):V->Prop |.cS id s n lo m=>(match I[id]?with|some (.cv rows s')=>s'=s/\rows.length=n/\lo+m<=n|_=>False)|_=>True
def tT(el:Option (Nat×Nat))(k2:Nat)(I:St)(x y:V):R:=match x with |.cS id s1 n lo m=>(match el,H9 k2 I y with |some (s,lW),some r2=>(match I[id]?with |some (.cv rows s')=>if lo+m+r2.length<=n then .dR (Ep I y/\s1=s/\s'=s/\rows.length=n/\eU s r2) (.cS id s n lo (m+r2.length)) (I.set id (.cv (rows.take (lo+m)++r2++rows.drop (lo+m+r2.length)) s))else .dR (Ep I y/\s1=s/\s'=s/\rows.length=n/\eU s r2/\lo=0/\m=n/\(n+r2.length)*lW<=140737488355328) (.cS id s (n+r2.length) 0 (n+r2.length)) (I.set id (.cv (rows++r2) s))|_=>.fail)|_,_=>.fail)|x=>match el,Eo k2 I y with
 |some (s,lW),some r2=>(match x with |.sl .full r1=>.dR (tR I y/\(r1.length+r2.length)*lW<=140737488355328/\eU s r1/\eU s r2/\(r2=[]->r1=[])) (.cS I.length s (r1.length+r2.length) 0 (r1.length+r2.length)) (I++[.cv (r1++r2) s])|_=>.fail)|_,_=>.fail
theorem Er{y:V}{s:Nat}(hm:Mem c w L I J)(ai:tR I y)(hy:Eo (dU P tx) I y=some r2)(r:dP w L I J y x)(hs:0<s)(hu:eU s r2):∃news,Src P s tx x r2.length news w/\bP (cM w L) r2.flatten news:=by
 unfold Eo at hy;split at hy
 .rename_i gg rows;split at hy;.rename_i h2;cases hy;obtain⟨el,ab⟩:=vJ h2;exact(tQ r).src ab hs hu
  grind
 .rename_i q;split at hy
  .rename_i h1;cases hy;have h1:=KE h1;have hx:=lU r;subst hx;by_cases hq:q=[];.subst hq;refine⟨[],⟨.inr h1,λ_=>rfl,?_,?_,by simp[zU],sM⟩,tV⟩;all_goals simp[Builtin.firstCells]
   .have av:s=1:=by obtain⟨b,rest,rfl⟩:=Co hq;exact(hu [.int .u8 b.toNat] (by simp[zU])).symm
    subst av;have:=Src.ofString w h1 ⟨q.toArray⟩;grind[AV,zU,Kw]
  grind
 .rename_i id s1 n lo m;split at hy
  .rename_i h2;obtain⟨el,ab⟩:=vJ h2;split at hy
   .rename_i rows s' cP;cases hy;simp only[tR,cP]at ai;obtain⟨rfl,hn,aC,hp⟩:=ai;obtain⟨ad,cap,hv,aD,aj,hc⟩:=r;have ak:(wU rows lo m).length=m:=by grind[wU]
    by_cases h0:m=0
    .subst h0;have al:wU rows lo 0=[]:=by rfl
     rw[al,hv];cases ad with |none=>exact⟨[],Src.ofNil w ab cap,tV⟩|some ad=>exact⟨[],(by grind[Src.ofSlice]),tV⟩
    .rcases hc with hd|⟨cI,an,aE,hb⟩;.grind
     .rw[cP]at an;cases an;obtain⟨b0,c0,dD,dG,aF,af⟩:=hb hn.symm;clear hb aj;have aG:0<m:=om;have ao:lo<c0:=om;obtain⟨k0,rfl,rfl⟩:=af ao;clear af;obtain⟨a2,a8,e1,aA,aH,aq,cZ⟩:=hm.dE id _ _ cP dD;cases e1;obtain⟨b',arr,T,fz,e2,hh,_,aI,_,ah⟩:=cZ (Nat.lt_of_le_of_lt (A5 _) ao);cases e2;clear cZ;have aw:s'=s:=by have ae:0<(wU rows lo m).length:=om;have h1:=hu _ (A9 ae);grind[wU]
      subst aw;have aJ:=yE aq;have ax:=yE hu;rw[ak]at ax;have ay:(lo+m)*s'<=rows.length*s':=Ak _ om;rw[B5]at ay;have aK:rows.length*s'<=arr.size:=by have:=ah.length;grind
      have aB:∀k v y,(wU rows lo m).flatten[k]?=some v->arr[lo*s'+k]?=some y->cM w L v y:=by
       intro k v y hk az;have ar:k<m*s':=by grind
       have hi:k/s'<m:=by simp_all[C9]
       have hj:k%s'<s':=Cw _ hs;have a1:k=k/s'*s'+k%s':=by grind[Cx]
       rw[a1,yS _ _ hu hj]at hk;simp only[wU,B9,An,alq hi,Cb]at hk;have ae:lo+k/s'<rows.length:=om;rw[A0 ae]at hk;simp only[Bf,Av,B9,As]at hk;obtain⟨v0,aL,rfl⟩:=hk;have hf:rows.flatten[(lo+k/s')*s'+k%s']?=some v0:=by rw[yS _ _ aq hj,A0 ae];grind
       obtain⟨z,hz,rz⟩:=ah.get _ _ hf;have au:(lo+k/s')*s'+k%s'=lo*s'+k:=by grind
       rw[au,An,alq om,Ao,az]at hz;cases hz;refine dy.lS rz ?_;unfold xB at hp;rw[Am]at hp;have aP:rows[lo+k/s']∈(rows.drop lo).take m:=by rw[Aq];exact⟨k/s',by grind⟩
       grind
      have a6:((arr.toList.drop (lo*s')).take (m*s')).length=m*s':=by grind
      rw[ak,hv];have aa:bP (cM w L) (wU rows lo m).flatten ((arr.toList.drop (lo*s')).take (m*s')):=by grind[bP.of]
      refine⟨_,Src.ofSlice w ab ⟨k0,lo*s',none⟩ m cap _ a6 (λj u hj=>?_) (λu a7=>?_),aa⟩
      .rw[An]at hj;split at hj;.rw[Cb,Ao]at hj;grind[wM,World.cell?]
       grind
      .obtain⟨k,hk⟩:=Aq.1 a7;have ar:k<(wU rows lo m).flatten.length:=by grind
       obtain⟨z,hz,rz⟩:=aa.get k _ (A0 ar);rw[hk]at hz;cases hz;exact rz.dS
   grind
  grind
 grind
theorem R8{y:V}{s:Nat}(hm:Mem c w L I J)(ai:Ep I y)(hy:H9 (dU P tx) I y=some r2)(r:dP w L I J y x)(hs:0<s)(hu:eU s r2):∃news,Src P s tx x r2.length news w/\bP (dy w L I J) r2.flatten news:=by
 unfold H9 at hy;split at hy
 .rename_i gg rows;split at hy;.rename_i h2;cases hy;obtain⟨el,ab⟩:=vJ h2;obtain⟨news,q1,q2⟩:=(tQ r).src ab hs hu;exact⟨news,q1,q2.imp λ_ _=>dy.dJ⟩
  grind
 .rename_i q;split at hy
  .rename_i h1;cases hy;have h1:=KE h1;have hx:=lU r;subst hx;by_cases hq:q=[];.subst hq;refine⟨[],⟨.inr h1,λ_=>rfl,?_,?_,by simp[zU],sM⟩,tV⟩;all_goals simp[Builtin.firstCells]
   .have au:s=1:=by obtain⟨b,rest,rfl⟩:=Co hq;exact(hu [.int .u8 b.toNat] (by simp[zU])).symm
    subst au;have:=Src.ofString w h1 ⟨q.toArray⟩;rw[AV]at this;have hl:(zU q).length=q.length:=by simp[zU]
    exact⟨_,by grind,(Kw q).imp λ_ _=>dy.dJ⟩
  grind
 .rename_i id s1 n lo m;split at hy
  .rename_i h2;obtain⟨el,ab⟩:=vJ h2;split at hy
   .rename_i rows s' cP;cases hy;simp only[Ep,cP]at ai;obtain⟨rfl,hn,aB⟩:=ai;obtain⟨ad,cap,hv,aC,aj,hc⟩:=r;have ak:((rows.drop lo).take m).length=m:=by grind
    by_cases h0:m=0;.subst h0;have al:(rows.drop lo).take 0=[]:=sM;rw[al,hv];cases ad with|none=>exact⟨[],Src.ofNil w ab cap,tV⟩|some ad=>exact⟨[],(by grind[Src.ofSlice]),tV⟩
    .rcases hc with hd|⟨cI,an,aD,hb⟩;.grind
     .rw[cP]at an;cases an;obtain⟨b0,c0,dD,dG,aE,af⟩:=hb hn.symm;clear hb aj;have aF:0<m:=om;have ao:lo<c0:=om;obtain⟨k0,rfl,rfl⟩:=af ao;clear af;obtain⟨a2,a6,e1,a7,aG,aq,cZ⟩:=hm.dE id _ _ cP dD;cases e1;obtain⟨b',arr,T,fz,e2,hh,_,aH,_,ah⟩:=cZ (Nat.lt_of_le_of_lt (A5 _) ao);cases e2;clear cZ;have av:s'=s:=by have ae:0<((rows.drop lo).take m).length:=om;have h1:=hu _ (A9 ae);grind
      subst av;have aI:=yE aq;have aw:=yE hu;rw[ak]at aw;have ax:(lo+m)*s'<=rows.length*s':=Ak _ om;rw[B5]at ax;have aJ:rows.length*s'<=arr.size:=by have:=ah.length;grind
      have a8:∀k v y,((rows.drop lo).take m).flatten[k]?=some v->arr[lo*s'+k]?=some y->dy w L I J v y:=by
       intro k v y hk aK;have ar:k<m*s':=by grind
       have hi:k/s'<m:=by rw[C9 hs];omega
       have hj:k%s'<s':=Cw _ hs;have ay:k=k/s'*s'+k%s':=by rw[Dx];exact(Cx k s').symm
       rw[ay,yS _ _ hu hj]at hk;simp only[An,alq hi,Cb]at hk;have ae:lo+k/s'<rows.length:=om;rw[A0 ae]at hk;simp only[Av]at hk;have hf:rows.flatten[(lo+k/s')*s'+k%s']?=some v:=by rw[yS _ _ aq hj,A0 ae];exact hk
       obtain⟨z,hz,rz⟩:=ah.get _ _ hf;have aA:(lo+k/s')*s'+k%s'=lo*s'+k:=by grind
       grind
      have az:((arr.toList.drop (lo*s')).take (m*s')).length=m*s':=by grind
      rw[ak,hv];have aa:bP (dy w L I J) ((rows.drop lo).take m).flatten ((arr.toList.drop (lo*s')).take (m*s')):=by grind[bP.of]
      refine⟨_,Src.ofSlice w ab ⟨k0,lo*s',none⟩ m cap _ az (λj u hj=>?_) (λu a1=>?_),aa⟩
      .rw[An]at hj;split at hj;.rw[Cb,Ao]at hj;rw[wM];simp only[World.cell?,hh];grind
       grind
      .obtain⟨k,hk⟩:=Aq.1 a1;have ar:k<((rows.drop lo).take m).flatten.length:=by grind
       obtain⟨z,hz,rz⟩:=aa.get k _ (A0 ar);rw[hk]at hz;cases hz;exact rz.dS
   grind
  grind
 grind
theorem Ia(ht:P.underlying t=some (.slice el))(hi:P.info? el=some i)(hs:Src P i.size tx x 0 [] w)(hle:n<=cap):(Builtin.append_ #[t,tx] ty #[.slice base n cap,x]).run P w=.ok (.slice base n cap) w:=by have hc:=hs.cells;have hl:=hs.len w;rcases hs.kind with⟨e',hk⟩|hk<;>cases base<;>simp[Builtin.append_,run_underlying ht,run_underlying hk,sizeOf,typeInfo,hi,hl,hle,hc,storeCells]
theorem Gi{b o m:Nat}{news:alY}{arr:am0}{T:TypeId}{fz:Nat×Nat}(ht:P.underlying t=some (.slice el))(hi:P.info? el=some i)(hs:Src P i.size tx x m news w)(hle:n+m<=cap)(hh:w.heap[b]?=some (.cells arr T fz))(hf:sS arr fz)(ab:o+n*i.size+news.length<=arr.size):(Builtin.append_ #[t,tx] ty #[.slice (some ⟨b,o,none⟩) n cap,x]).run P w=.ok (.slice (some ⟨b,o,none⟩) (n+m) cap) (yG w b (.cells (yH arr (o+n*i.size) news) T fz)):=by have hc:=hs.cells;have hl:=hs.len w;have aa:=xU P b (o+n*i.size) T fz news 0 arr w hh hf om hs.one;rw[D7]at aa;rcases hs.kind with⟨e',hk⟩|hk<;>simp[Builtin.append_,run_underlying ht,run_underlying hk,sizeOf,typeInfo,hi,hl,hle,hc,wM,aa]
theorem R9{P:Program}{w:World}{L:Nat->Nat}{rows:List (List V)}{s:Nat}(ht:P.underlying t=some (.slice el))(hs:0<s)(hu:eU s rows)(r:cM w L (.sl .ro rows) (.slice base rows.length cap)):∃fw,(Builtin.firstCells s rows.length (.slice base rows.length cap)).run P w.drew=.ok fw.toArray w.drew/\bP (cM w L) rows.flatten fw/\fw.length=rows.length*s:=by obtain⟨news,h1,h2⟩:=r.src ht hs hu;exact⟨news,h1.cellsD,h2,h1.newsLen⟩
theorem KF{z:Value}(hu:P.underlying t=some (.slice el))(hi:P.info? el=some i)(hz:i.zero=some z)(af:z.cells.size=i.size)(ah:0<i.bytes){k:Nat}{fw news:alY}{y:Value}(hold:(Builtin.firstCells i.size n (.slice base n cap)).run P w.drew=.ok fw.toArray w.drew)(ad:fw.length=n*i.size)(aa:Src P i.size tx y k news w)(ae:cap<n+k)(hbound:(n+k)*i.bytes<=140737488355328):∃(ab:Nat)(arr:am0),n+k<=ab/\ab*i.size<=arr.size/\arr.toList.take ((n+k)*i.size)=fw++news/\(Builtin.append_ #[t,tx] ty #[.slice base n cap,y]).run P w=.ok (.slice (some ⟨w.heap.size,0,none⟩) (n+k) ab) (w.drew.alloc (.cells arr el)):=by
 have hb:n+k<=140737488355328:=Ax (Nat.le_mul_of_pos_right _ ah) hbound;have hr:=run_append_grow_src (P:=P) w t tx ty el i z hu hi hz base n cap fw hold y k news aa ae om (growslice_fits ae hbound);have ai:=grownCap_ge w (n+k) cap el;refine⟨grownCap w (n+k) cap el,_,ai,?_,?_,hr⟩
 .have hm:grownCap w (n+k) cap el*i.size=(n+k)*i.size+(grownCap w (n+k) cap el-(n+k))*i.size:=by rw[<-B5];grind
  simp only[Array.size_append,List.size_toArray,Al,size_zeroCells,af,ad,aa.newsLen];grind
 .rw[Array.toList_append,List.take_append_of_le_length (by simp only[Al,ad,aa.newsLen];grind)];rw[Ad (by simp only[Al,ad,aa.newsLen];grind)]
theorem NL{rows:List (List V)}{s:Nat}{a0:Option Addr}(hu:P.underlying t=some (.slice el))(cZ:iy w L I J (.cv rows s) (.slice a0 rows.length cap)):∃fw,(Builtin.firstCells s rows.length (.slice a0 rows.length cap)).run P w.drew=.ok fw.toArray w.drew/\fw.length=rows.length*s/\bP (dy w L I J) rows.flatten fw:=by
 obtain⟨a',ai,e,dG,hs,aj,hx⟩:=cZ;cases e;by_cases h0:0<cap
 .obtain⟨b,arr,T,fz,rfl,hh,_,ak,_,aa⟩:=hx h0;have al:rows.length*s<=cap*s:=Ak _ dG;have hl:(arr.toList.take (rows.length*s)).length=rows.length*s:=by grind
  have ab:=Src.ofSlice (P:=P) (size:=s) w hu ⟨b,0,none⟩ rows.length cap (arr.toList.take (rows.length*s)) hl (by grind[wM,World.cell?]) (λu ad=>by
   obtain⟨k,hk⟩:=Aq.1 ad;have ae:k<rows.flatten.length:=by rw[aa.length];grind
   obtain⟨z,hz,rz⟩:=aa.get k _ (A0 ae);rw[hk]at hz;cases hz;exact rz.dS);exact⟨_,ab.cellsD,hl,aa⟩
 .have af:cap=0:=om;subst af;have ah:rows=[]:=(by grind);subst ah;cases a0 with |none=>exact⟨[],(by rfl),sM,tV⟩|some a0=>exact⟨[],(Src.ofSlice (P:=P) (size:=s) w hu a0 0 0 [] sM (λj u h=>by simp at h) (λ_ h=>by cases h)).cellsD,sM,tV⟩
theorem NM{rows:List (List V)}{s p:Nat}(h:∀r∈rows,r.length=s)(h2:∀r∈r2,r.length=s)(hp:p+r2.length<=rows.length):(rows.take p++r2++rows.drop (p+r2.length)).flatten=putCells rows.flatten (p*s) r2.flatten:=by
 have h1:∀q,q<=rows.length->(rows.take q).flatten=rows.flatten.take (q*s):=λq hq=>by
  have e:rows.flatten=(rows.take q).flatten++(rows.drop q).flatten:=by grind[B0]
  have hl:=yE (rows:=rows.take q) (s:=s) λr hr=>h r (B6 hr);grind
 have h3:∀q,q<=rows.length->(rows.drop q).flatten=rows.flatten.drop (q*s):=λq hq=>by
  have e:rows.flatten=(rows.take q).flatten++(rows.drop q).flatten:=by grind[B0]
  have hl:=yE (rows:=rows.take q) (s:=s) (by grind);grind
 have aa:=yE h2;unfold putCells;rw[By,By,h1 p om,h3 _ hp,aa,B5]
theorem xG2{dst:Option Tmp}{pos:String}{eK:Array Edge}{g:Option (Nat×Bool)}(t tx:TypeId)(x y:Operand)(h:ez c nt e I a w L J):fG (tS (eV P t) (dU P tx) I (zI e x) (zI e y)) I (bT P c ⟨dst,.call ⟨.builtin .append,#[x,y],#[t,tx]⟩,ty,pos,eK,g⟩ a w L I J):=by
 have hx:=h.eval x;have hy:=h.eval y;unfold tS;split
 .rename_i s bp r2 aY ax;obtain⟨el,i,z,hu,hi,hz,rfl,rfl,aJ,hs,aK⟩:=rD aY;have al:∀{v w'},(Builtin.append_ #[t,tx] ty #[a.eval x,a.eval y]).run P w=.ok v w'->(execOp a.eval ⟨dst,.call ⟨.builtin .append,#[x,y],#[t,tx]⟩,ty,pos,eK,g⟩).run P w=.ok (.value v) w':=by simp_all[execOp,resolve,invoke,builtin]
  have grow:∀{base:Option Addr}{n cap:Nat}{r1:List (List V)},tR I (zI e y)->a.eval x=.slice base n cap->r1.length=n->cM w L (.sl .ro r1) (.slice base n cap)->eU i.size r1->eU i.size r2->cap<n+r2.length->(n+r2.length)*i.bytes<=140737488355328->∃xs ai,n+r2.length<=ai/\bP (cM w L) (r1++r2).flatten xs/\∃arr:am0,ai*i.size<=arr.size/\(∀(k:Nat) v,xs[k]?=some v->arr[k]?=some v)/\(execOp a.eval ⟨dst,.call ⟨.builtin .append,#[x,y],#[t,tx]⟩,ty,pos,eK,g⟩).run P w=.ok (.value (.slice (some ⟨w.heap.size,0,none⟩) (n+r2.length) ai)) (w.drew.alloc (.cells arr el)):=by
   intro base n cap r1 ak hv hn ay aj ae aL hbound;subst hn;obtain⟨news,ab,af⟩:=Er (P:=P) h.mem ak ax hy hs ae;obtain⟨fw,hold,av,aF⟩:=R9 hu hs aj ay;have hb:r1.length+r2.length<=140737488355328:=Ax (Nat.le_mul_of_pos_right _ aK) hbound;have hr:=run_append_grow_src (P:=P) w t tx ty el i z hu hi hz base r1.length cap fw hold (a.eval y) r2.length news ab aL om (growslice_fits aL hbound);rw[<-hv]at hr;have aB:=grownCap_ge w (r1.length+r2.length) cap el;refine⟨fw++news,grownCap w (r1.length+r2.length) cap el,aB,?_,_,?_,?_,al hr⟩;.rw[By];exact av.append af
   .have hm:grownCap w (r1.length+r2.length) cap el*i.size=(r1.length+r2.length)*i.size+(grownCap w (r1.length+r2.length) cap el-(r1.length+r2.length))*i.size:=by rw[<-B5];grind
    simp only[Array.size_append,List.size_toArray,Al,size_zeroCells,aJ,aF,ab.newsLen];grind
   grind
  split;·
   rename_i r1 h1;rw[h1]at hx;rintro⟨ak,hbound,aj,ae⟩;have aP:cM w L (.sl .full r1) (a.eval x):=hx;obtain⟨base,cap,hv,aG,aZ⟩:=aP.len;have dG:=aZ rfl;subst dG;by_cases h0:r2=[]
   .subst h0;obtain⟨news,ab,af⟩:=Er (P:=P) h.mem ak ax hy hs ae;have a6:news=[]:=B3 (by rw[ab.newsLen];simp);subst a6;have hr:=Ia (P:=P) (ty:=ty) hu hi ab aG (base:=base);rw[<-hv]at hr;have aa:=h.mem.own (s:=i.size) (n:=r1.length) (a:=base) hs;refine⟨_,w,L,_,.inl (al hr),by simpa using aa,Le.refl _ _,Ext.push _ _ h.mem.len _ _,?_⟩;rw[Aw];refine⟨cM.lT aP,r1.length,i.size,?_,om,λ_=>?_,aj⟩;.simp
    .rw[<-h.mem.len,hv];simp
   .have an:0<r2.length:=(by grind);obtain⟨xs,ai,aB,af,arr,az,aH,a7⟩:=grow ak hv rfl (by grind[cM.lT]) aj ae om hbound;have hd:=h.mem.drew;have hlen:(r1++r2).length=r1.length+r2.length:=sM;obtain⟨aa,hle,aw⟩:=hd.1.qN (s:=i.size) (cap:=ai) (rows:=r1++r2) (T:=el) hs (tN aj ae) (af.imp (by grind[cM.mono])) om az aH;rw[hlen]at aa aw;refine⟨_,_,_,_,.inl a7,aa,hd.2.trans ?_,Ext.push _ _ h.mem.len _ _,?_⟩;.grind
    .refine⟨aw,r1.length+r2.length,i.size,sM,om,λ_=>?_,tN aj ae⟩;rw[<-h.mem.len];simp
  .rename_i id r1 h1;rw[h1]at hx;split
   .rename_i n s' cP;rintro⟨ak,rfl,rfl,hbound,ae⟩;obtain⟨ay,n',s2,aQ,bn,dD,aj⟩:=hx;rw[cP]at aQ;cases aQ;have aC:=dD rfl;obtain⟨base,cap,hv,aG,_⟩:=ay.len;by_cases h0:r2=[];.subst h0;obtain⟨news,ab,af⟩:=Er (P:=P) h.mem ak ax hy hs ae;have a6:news=[]:=B3 (by rw[ab.newsLen];simp);subst a6;have hr:=Ia (P:=P) (ty:=ty) hu hi ab aG (base:=base);rw[<-hv]at hr;have au:I.set id (.app (r1.length+([]:List (List V)).length) i.size)=I:=(by grind[yP]);rw[au];refine⟨_,w,L,J,.inl (al hr),h.mem,Le.refl _ _,Ext.refl _ _,?_⟩;rw[Aw];exact⟨ay,r1.length,i.size,cP,om,dD,aj⟩
    .have an:0<r2.length:=(by grind);have hlen:(r1++r2).length=r1.length+r2.length:=sM;have a8:id<I.length:=(by grind);by_cases aq:r1.length+r2.length<=cap;.obtain⟨a',aE,e1,ba,aR,cZ⟩:=h.mem.dE id _ _ cP aC;rw[hv]at e1;cases e1;obtain⟨b,o',arr,T,fz,rfl,hh,hf,az,hL⟩:=cZ om;obtain⟨news,ab,af⟩:=Er (P:=P) h.mem ak ax hy hs ae;rw[hv]at ay aC;obtain⟨bo,T',bq,bb,bc,aA,aa,hle,ah,aw⟩:=h.mem.H3 cP aC rfl ay aj ae af an aq;have hr:=Gi (P:=P) (ty:=ty) hu hi ab aq bb bc aA;rw[<-hv]at hr;refine⟨_,_,_,_,(by grind),aa,hle,ah,aw,r1.length+r2.length,i.size,?_,om,λ_=>?_,tN aj ae⟩;all_goals grind
     .obtain⟨xs,ai,aB,af,arr,az,aH,a7⟩:=grow ak hv rfl (by grind) aj ae om hbound;have hd:=h.mem.drew;obtain⟨aa,hle,ah,aw⟩:=hd.1.Ej (cap:=ai) (rows:=r1++r2) (arr:=arr) (T:=el) cP aC hs (tN aj ae) (af.imp (by grind[cM.mono])) om om az aH;rw[hlen]at aa ah aw hle;refine⟨_,_,_,_,.inl a7,aa,hd.2.trans hle,ah,aw,r1.length+r2.length,i.size,?_,om,λ_=>?_,tN aj ae⟩;.grind
      .rw[Bm (by rw[h.mem.len];exact a8)];rfl
   trivial
  .rename_i id s1 n lo m h1;rw[h1]at hx;obtain⟨ad,cap,hv,aS,an,hc⟩:=hx;split
   .rename_i rows s' cP;have cur:rows.length=n->∃b c0,J[id]?=some (.slice b n c0)/\cap=c0-lo/\lo<=c0/\(lo<c0->∃k,b=some ⟨k,0,none⟩/\ad=some ⟨k,lo*s1,none⟩):=(by grind);have a8:id<I.length:=(by grind);split
    .rename_i bd;rintro⟨ak,rfl,rfl,hn,ae⟩;obtain⟨b0,c0,dD,rfl,aF,ao⟩:=cur hn;obtain⟨a2,aE,e1,aT,aR,a1,cZ⟩:=h.mem.dE id _ _ cP dD;cases e1;clear cZ cur hc;obtain⟨news,ab,af⟩:=Er (P:=P) h.mem ak ax hy hs ae;by_cases h0:r2=[];.subst h0;have a6:news=[]:=B3 (by rw[ab.newsLen];simp);subst a6;have hr:=Ia (P:=P) (ty:=ty) hu hi ab aS.1 (base:=ad);rw[<-hv]at hr;have au:I.set id (.cv (rows.take (lo+m)++[]++rows.drop (lo+m+([]:List (List V)).length)) i.size)=I:=(by simp_all[yP]);rw[au];refine⟨_,w,L,J,.inl (al hr),h.mem,Le.refl _ _,Ext.refl _ _,?_⟩;exact⟨ad,c0-lo,hv,aS,an,(by grind)⟩
     .have br:0<r2.length:=(by grind);clear an;have bf:lo<c0:=om;obtain⟨k0,rfl,rfl⟩:=ao bf;clear ao;have ar:(rows.take (lo+m)++r2++rows.drop (lo+m+r2.length)).length=rows.length:=by simp;omega
      have aU:(lo+m)*i.size<=rows.length*i.size:=Ak _ om;obtain⟨arr,T,fz,hh,hf,aA,aa,hle,ah⟩:=h.mem.gI (off:=(lo+m)*i.size) (vs:=r2.flatten) (cI:=rows.take (lo+m)++r2++rows.drop (lo+m+r2.length)) cP dD om (af.imp λ_ _=>dy.dJ) aU (λr hr=>by
        rcases Ai.1 hr with hr|hr
        .rcases Ai.1 hr with hr|hr;.grind
         .exact ae r hr
        grind) (NM a1 ae om) om om;have au:J.set id (.slice (some ⟨k0,0,none⟩) (rows.take (lo+m)++r2++rows.drop (lo+m+r2.length)).length c0)=J:=yP _ _ _ (by grind);rw[au]at aa ah;have hr:=Gi (P:=P) (ty:=ty) (o:=lo*i.size) (n:=m) (cap:=c0-lo) hu hi ab om hh hf (by grind);rw[<-hv,<-B5]at hr;refine⟨_,_,_,_,.inl (al hr),aa,hle,ah,?_⟩;exact⟨_,c0-lo,rfl,om,sM,(by grind)⟩
    .rename_i bd;rintro⟨ak,rfl,rfl,hn,ae,rfl,rfl,hbound⟩;obtain⟨b0,c0,dD,bt,aF,ao⟩:=cur hn;have aV:c0=cap:=om;subst aV;have aW:=h.mem.dE id _ _ cP dD;obtain⟨a2,aE,e1,aT,aR,a1,cZ⟩:=aW;cases e1;clear cZ cur hc an;obtain⟨news,ab,af⟩:=Er (P:=P) h.mem ak ax hy hs ae;have ar:(rows++r2).length=rows.length+r2.length:=sM;by_cases aq:rows.length+r2.length<=c0
     .have bg:0<c0:=om;obtain⟨k0,rfl,rfl⟩:=ao bg;clear ao;obtain⟨arr,T,fz,hh,hf,aA,aa,hle,ah⟩:=h.mem.gI (off:=rows.length*i.size) (vs:=r2.flatten) (cI:=rows++r2) cP dD om (af.imp λ_ _=>dy.dJ) om (tN a1 ae) (by unfold putCells;rw[By,Ad (by rw[yE a1];omega),Bt (by rw[yE a1];omega),Aw]) om om;rw[D0]at hv;have hr:=Gi (P:=P) (ty:=ty) (o:=0) (n:=rows.length) (cap:=c0) hu hi ab aq hh hf om;rw[<-hv,Ae]at hr;rw[ar]at aa ah;refine⟨_,_,_,_,.inl (al hr),aa,hle,ah,?_⟩;exact⟨_,c0,rfl,om,sM,.inr ⟨_,Bm a8,om,(by grind)⟩⟩
     .obtain⟨fw,hold,aX,av⟩:=NL (P:=P) hu (h.mem.dE id _ _ cP dD);have bh:ad=b0\/c0=0:=by grind
      clear ao;have aI:(Builtin.firstCells i.size rows.length (.slice ad rows.length c0)).run P w.drew=.ok fw.toArray w.drew:=by
       rcases bh with rfl|rfl;.omega
       .have bj:rows=[]:=(by grind);subst bj;have bk:fw=[]:=B3 (by grind);subst bk;cases ad with |none=>rfl|some a0=>exact(Src.ofSlice (P:=P) (size:=i.size) w hu a0 0 0 [] sM sM sM).cellsD
      obtain⟨ai,arr,aB,az,bm,hr⟩:=KF (P:=P) (w:=w) (tx:=tx) (ty:=ty) hu hi hz aJ aK aI aX ab om hbound;rw[<-hv]at hr;have hd:=h.mem.drew;have aD:bP (dy w.drew L I J) (rows++r2).flatten (arr.toList.take ((rows++r2).length*i.size)):=by rw[ar,bm,By];exact(av.imp λ_ _=>dy.mono hd.2 (Ext.refl _ _)).append (af.imp λ_ _ q=>dy.dJ (q.mono hd.2))
      obtain⟨aa,hle,ah⟩:=hd.1.qP (cI:=rows++r2) (cap:=ai) (T:=el) cP dD hs (tN a1 ae) aD om om az;rw[ar]at aa ah;refine⟨_,_,_,_,.inl (al hr),aa,hd.2.trans hle,ah,?_⟩;exact⟨_,ai,rfl,om,sM,.inr ⟨_,Bm a8,om,λ_=>⟨_,ai,Bm (by rw[h.mem.len];exact a8),rfl,om,sM⟩⟩⟩
   trivial
  trivial
 trivial
theorem xk0{dst:Option Tmp}{pos:String}{eK:Array Edge}{g:Option (Nat×Bool)}(t tx:TypeId)(x y:Operand)(h:ez c nt e I a w L J):fG (tT (eV P t) (dU P tx) I (zI e x) (zI e y)) I (bT P c ⟨dst,.call ⟨.builtin .append,#[x,y],#[t,tx]⟩,ty,pos,eK,g⟩ a w L I J):=by
 have hx:=h.eval x;have hy:=h.eval y;unfold tT;split
 .rename_i id s1 n lo m h1;split
  .rename_i s aT r2 a7 a1;obtain⟨el,i,z,hu,hi,hz,rfl,rfl,a8,hs,aA⟩:=rD a7;have ai:∀{v w'},(Builtin.append_ #[t,tx] ty #[a.eval x,a.eval y]).run P w=.ok v w'->(execOp a.eval ⟨dst,.call ⟨.builtin .append,#[x,y],#[t,tx]⟩,ty,pos,eK,g⟩).run P w=.ok (.value v) w':=by intro v w' hr;simp[execOp,resolve,invoke,builtin,hr]
   rw[h1]at hx;obtain⟨ad,cap,hv,aG,au,hc⟩:=hx;split
   .rename_i rows s' cP;have cur:rows.length=n->∃b c0,J[id]?=some (.slice b n c0)/\cap=c0-lo/\lo<=c0/\(lo<c0->∃k,b=some ⟨k,0,none⟩/\ad=some ⟨k,lo*s1,none⟩):=λhn=>by
     rcases hc with hd|⟨cI,aH,bg,hb⟩;.rw[cP]at hd;cases hd
     .rw[cP]at aH;cases aH;exact hb hn.symm
    have aw:id<I.length:=(A3.1 cP).1;split
    .rename_i aI;rintro⟨ax,rfl,rfl,hn,ak⟩;obtain⟨b0,c0,dD,rfl,ay,af⟩:=cur hn;obtain⟨a2,aJ,e1,aK,aU,ao,cZ⟩:=h.mem.dE id _ _ cP dD;cases e1;clear cZ cur hc;obtain⟨news,ah,al⟩:=R8 (P:=P) h.mem ax a1 hy hs ak;by_cases h0:r2=[];.subst h0;have aB:news=[]:=B3 (by rw[ah.newsLen];simp);subst aB;have hr:=Ia (P:=P) (ty:=ty) hu hi ah aG.1 (base:=ad);rw[<-hv]at hr;have az:I.set id (.cv (rows.take (lo+m)++[]++rows.drop (lo+m+([]:List (List V)).length)) i.size)=I:=yP _ _ _ (by simp[cP]);rw[az];refine⟨_,w,L,J,.inl (ai hr),h.mem,Le.refl _ _,Ext.refl _ _,?_⟩;exact⟨ad,c0-lo,hv,aG,au,.inr ⟨rows,cP,Cg hn.symm,λ_=>⟨b0,c0,dD,rfl,ay,af⟩⟩⟩
     .have bh:0<r2.length:=List.length_pos_iff.2 h0;clear au;have aV:lo<c0:=by clear af;omega
      obtain⟨k0,rfl,rfl⟩:=af aV;clear af;have aa:(rows.take (lo+m)++r2++rows.drop (lo+m+r2.length)).length=rows.length:=by simp;omega
      have aL:(lo+m)*i.size<=rows.length*i.size:=Ak _ om;obtain⟨arr,T,fz,hh,hf,av,ab,hle,ae⟩:=h.mem.gI (off:=(lo+m)*i.size) (vs:=r2.flatten) (cI:=rows.take (lo+m)++r2++rows.drop (lo+m+r2.length)) cP dD om al aL (λr hr=>by
        rcases Ai.1 hr with hr|hr
        .rcases Ai.1 hr with hr|hr;.exact ao r (B6 hr)
         .exact ak r hr
        .exact ao r (Bz hr)) (NM ao ak om) (by rw[aa];exact A7 _) (by rw[aa];omega);have az:J.set id (.slice (some ⟨k0,0,none⟩) (rows.take (lo+m)++r2++rows.drop (lo+m+r2.length)).length c0)=J:=yP _ _ _ (by rw[aa,hn];exact dD);rw[az]at ab ae;have hr:=Gi (P:=P) (ty:=ty) (o:=lo*i.size) (n:=m) (cap:=c0-lo) hu hi ah om hh hf (by rw[B5]at av;exact av);rw[<-hv,<-B5]at hr;refine⟨_,_,_,_,.inl (ai hr),ab,hle,ae,?_⟩;exact⟨_,c0-lo,rfl,om,λ_=>⟨_,_,rfl⟩,.inr ⟨_,Bm aw,by rw[aa];omega,λ_=>⟨_,c0,dD,rfl,ay,λ_=>⟨k0,rfl,rfl⟩⟩⟩⟩
    .rename_i aI;rintro⟨ax,rfl,rfl,hn,ak,rfl,rfl,hbound⟩;obtain⟨b0,c0,dD,aW,ay,af⟩:=cur hn;have aP:c0=cap:=by rw[aW,Nat.sub_zero]
     subst aP;have aQ:=h.mem.dE id _ _ cP dD;obtain⟨a2,aJ,e1,aK,aU,ao,cZ⟩:=aQ;cases e1;clear cZ cur hc au;obtain⟨news,ah,al⟩:=R8 (P:=P) h.mem ax a1 hy hs ak;have aa:(rows++r2).length=rows.length+r2.length:=sM;by_cases aq:rows.length+r2.length<=c0
     .have aX:0<c0:=by clear af;rw[Ae]at aI;omega
      obtain⟨k0,rfl,rfl⟩:=af aX;clear af;obtain⟨arr,T,fz,hh,hf,av,ab,hle,ae⟩:=h.mem.gI (off:=rows.length*i.size) (vs:=r2.flatten) (cI:=rows++r2) cP dD om al (A7 _) (tN ao ak) (by unfold putCells;rw[By,Ad (by rw[yE ao];exact A7 _),Bt (by rw[yE ao];omega),Aw]) (by rw[aa];omega) (by rw[aa];exact aq);rw[D0]at hv;have hr:=Gi (P:=P) (ty:=ty) (o:=0) (n:=rows.length) (cap:=c0) hu hi ah aq hh hf (by rw[Ae];exact av);rw[<-hv,Ae]at hr;rw[aa]at ab ae;refine⟨_,_,_,_,.inl (ai hr),ab,hle,ae,?_⟩;exact⟨_,c0,rfl,⟨aq,om⟩,λ_=>⟨_,_,rfl⟩,.inr ⟨_,Bm aw,by rw[aa];exact A7 _,λ_=>⟨_,c0,Bm (by rw[h.mem.len];exact aw),rfl,A5 _,λ_=>⟨k0,rfl,by rw[D0]⟩⟩⟩⟩
     .obtain⟨fw,hold,a6,ar⟩:=NL (P:=P) hu (h.mem.dE id _ _ cP dD);have aY:ad=b0\/c0=0:=by
       by_cases h0:0<c0;.obtain⟨k0,rfl,rfl⟩:=af h0;exact .inl (by rw[D0])
       .exact .inr (Nat.eq_zero_of_not_pos h0)
      clear af;have aC:(Builtin.firstCells i.size rows.length (.slice ad rows.length c0)).run P w.drew=.ok fw.toArray w.drew:=by
       rcases aY with rfl|rfl;.exact hold
       .have aZ:rows=[]:=B3 om;subst aZ;have ba:fw=[]:=B3 (by rw[a6];simp);subst ba;cases ad with |none=>exact(Src.ofNil (P:=P) (size:=i.size) w hu 0).cellsD|some a0=>exact(Src.ofSlice (P:=P) (size:=i.size) w hu a0 0 0 [] sM (λj u h=>by simp at h) (λ_ h=>by cases h)).cellsD
      obtain⟨aj,arr,aD,aE,aF,hr⟩:=KF (P:=P) (w:=w) (tx:=tx) (ty:=ty) hu hi hz a8 aA aC a6 ah om hbound;rw[<-hv]at hr;have hd:=h.mem.drew;have an:bP (dy w.drew L I J) (rows++r2).flatten (arr.toList.take ((rows++r2).length*i.size)):=by rw[aa,aF,By];exact(ar.imp λ_ _=>dy.mono hd.2 (Ext.refl _ _)).append (al.imp λ_ _=>dy.mono hd.2 (Ext.refl _ _))
      obtain⟨ab,hle,ae⟩:=hd.1.qP (cI:=rows++r2) (cap:=aj) (T:=el) cP dD hs (tN ao ak) an om om aE;rw[aa]at ab ae;refine⟨_,_,_,_,.inl (ai hr),ab,hd.2.trans hle,ae,?_⟩;exact⟨_,aj,rfl,⟨aD,om⟩,λ_=>⟨_,_,rfl⟩,.inr ⟨_,Bm aw,by rw[aa];exact A7 _,λ_=>⟨_,aj,Bm (by rw[h.mem.len];exact aw),rfl,A5 _,λ_=>⟨_,rfl,by rw[D0];rfl⟩⟩⟩⟩
   .trivial
  .trivial
 split
 .rename_i s aT r2 a7 a1;obtain⟨el,i,z,hu,hi,hz,rfl,rfl,a8,hs,aA⟩:=rD a7;have ai:∀{v w'},(Builtin.append_ #[t,tx] ty #[a.eval x,a.eval y]).run P w=.ok v w'->(execOp a.eval ⟨dst,.call ⟨.builtin .append,#[x,y],#[t,tx]⟩,ty,pos,eK,g⟩).run P w=.ok (.value v) w':=by intro v w' hr;simp[execOp,resolve,invoke,builtin,hr]
  split
  .rename_i r1 h1;rw[h1]at hx;rintro⟨ax,hbound,aR,ak,bb⟩;have aS:cM w L (.sl .full r1) (a.eval x):=hx;obtain⟨base,cap,hv,bc,bd⟩:=aS.len;have dG:=bd rfl;subst dG;obtain⟨news,ah,al⟩:=Er (P:=P) h.mem ax a1 hy hs ak;by_cases h0:r2=[];.have bf:=bb h0;subst h0 bf;have aB:news=[]:=B3 (by rw[ah.newsLen];simp);subst aB;have hr:=Ia (P:=P) (ty:=ty) hu hi ah bc (base:=base);rw[<-hv]at hr;have ab:=h.mem.mM (s:=i.size) (a:=base) hs;refine⟨_,w,L,_,.inl (ai hr),by simpa using ab,Le.refl _ _,Ext.push _ _ h.mem.len _ _,?_⟩;refine⟨base,0,hv,⟨A7 _,A7 _⟩,λq=>by simp at q,.inr ⟨[],sM,sM,λ_=>⟨base,0,?_,rfl,A7 _,λq=>om⟩⟩⟩;rw[<-h.mem.len];simp
   .have au:0<r2.length:=List.length_pos_iff.2 h0;obtain⟨fw,hold,ar,ay⟩:=R9 hu hs aR (show cM w L (.sl .ro r1) (.slice base r1.length r1.length)by rw[<-hv];exact cM.lT aS);obtain⟨aj,arr,aD,aE,aF,hr⟩:=KF (P:=P) (w:=w) (tx:=tx) (ty:=ty) hu hi hz a8 aA hold ay ah om hbound;rw[<-hv]at hr;have hd:=h.mem.drew;have aa:(r1++r2).length=r1.length+r2.length:=sM;have an:bP (dy w.drew L I J) (r1++r2).flatten (arr.toList.take ((r1++r2).length*i.size)):=by rw[aa,aF,By];exact(ar.imp λ_ _ q=>dy.dJ (q.mono hd.2)).append (al.imp λ_ _ q=>dy.dJ (q.mono hd.2))
    obtain⟨ab,hle,ae⟩:=hd.1.mL (cap:=aj) (T:=el) hs (tN aR ak) an om aE;rw[aa]at ab ae;refine⟨_,_,_,_,.inl (ai hr),ab,hd.2.trans hle,ae,?_⟩;refine⟨_,aj,rfl,⟨aD,om⟩,λ_=>⟨_,_,rfl⟩,.inr ⟨r1++r2,sM,by rw[aa];exact A7 _,λ_=>⟨_,aj,?_,rfl,A5 _,λ_=>⟨_,rfl,by rw[D0]⟩⟩⟩⟩;rw[<-h.mem.len];simp
  .trivial
 .trivial
end
section
variable{P:Program}{c:Ctx}{nt:Nat}{e:Env}{I:St}{a:Act}{w:World}{L:Nat->Nat}{J:alY}{o:Oper}
variable{dst:Option Tmp}{ty:TypeId}{eK:Array Edge}{g:Option (Nat×Bool)}{n:Nat}{cap:Nat}
theorem Sa(arr:am0)(k:Nat):∀(vs:alY)(j:Nat)(cur:am0),(vs.zipIdx j).foldl (λcs(p:Value×Nat)=>cs.setIfInBounds (k+p.2) p.1) cur=yH cur (k+j) vs
 |[],_,_=>rfl|v::vs,j,cur=>by rw[List.zipIdx_cons,B7,Sa arr k vs (j+1)];rfl
theorem KG{pl:Nat->Option (Nat×Nat)}{arr:am0}{i off s:Nat}{v:Value}{rest:List (Nat×Value)}(hp:pl i=some (off,s))(hs:v.cells.size=s)(hle:off+s<=arr.size):Instr.fill pl arr ((i,v)::rest)=Instr.fill pl (yH arr off v.cells.toList) rest:=by
 rw[Instr.fill];simp only[hp];have h1:(v.cells.size≠s||decide (off+v.cells.size>arr.size))=false:=by grind
 rw[alp (by simp[hs];omega)];congr 1;rw[<-Array.foldl_toList,Array.toList_zipIdx];exact Sa arr off v.cells.toList 0 arr
def tU:Nat->List (Nat×V)->Bool |_,[]=>true|k,(i,v)::r=>i==k&&nU v&&tU (k+1) r
def o8 (v:V):Bool:=(xT v).all o7
def sX (v:V):List V:=(xT v).map lS
def xy(es:am2)(len:Nat)(parts:List (Nat×V)):R:=match es with |some s=>if tU 0 parts=true/\parts.length=len then .eP ((∀p∈parts,o8 p.2=true/\(xT p.2).length=s)/\len*s<=16777216/\0<s) (.sl .full (parts.map λp=>sX p.2))else .fail|none=>.fail
theorem bP.la{U J γ:Type}{R:γ->J->Prop}{f:U->γ}:∀{l:List U}{m:List J},bP (λx y=>R (f x) y) l m->bP R (l.map f) m |[],[],_=>trivial|_::_,_::_,h=>⟨h.1,bP.la h.2⟩|[],_::_,h=>h.elim|_::_,[],h=>h.elim
theorem wi2{v:V}{x:Value}(r:bP (dy w L I J) (xT v) x.cells.toList)(hp:o8 v):bP (cM w L) (sX v) x.cells.toList:=by unfold o8 at hp;unfold sX;refine bP.la ?_;revert r hp;generalize xT v=cs;generalize x.cells.toList=xs;intro r hp;induction cs generalizing xs with |nil=>cases xs<;>simpa|cons p cs ih=>cases xs with |nil=>simpa|cons y ys=>simp at hp;exact⟨dy.lS r.1 hp.1,ih _ r.2 (by grind)⟩
theorem Sb{s:Nat}:∀(parts:List (Nat×V))(aa:List (Nat×Value))(k:Nat)(arr:am0)(done:List V),tU k parts=true->(∀p∈parts,o8 p.2=true/\(xT p.2).length=s)->bP (λp q=>p.1=q.1/\dP w L I J p.2 q.2) parts aa->arr.size=(k+parts.length)*s->done.length=k*s->bP (cM w L) done (arr.toList.take (k*s))->∃ab,Instr.fill (λi=>some (i*s,s)) arr aa=some ab/\ab.size=arr.size/\bP (cM w L) (done++(parts.map λp=>sX p.2).flatten) ab.toList
 |[],[],k,arr,done,_,_,_,af,hd,ae=>by refine⟨arr,rfl,rfl,?_⟩;grind[Ad]|(i,v)::parts,(i',x)::aa,k,arr,done,ho,hp,⟨⟨hi,hr⟩,ah⟩,af,hd,ae=>by
  simp only[tU,Aa,alx]at ho;obtain⟨⟨rfl,ai⟩,ho⟩:=ho;have aj:=hp (i,v) sM;simp only at hi aj;subst hi;have ad:=Ek hr ai;have hlen:=ad.length;simp only[Cv]at hlen;have an:x.cells.size=s:=om;simp only[Ah]at af;have hm:(i+(parts.length+1))*s=i*s+s+parts.length*s:=by grind
  have aq:(i+1)*s=i*s+s:=by grind
  rw[KG (s:=s) rfl an om];have ak:=wi2 ad aj.1;have ar:(sX v).length=s:=by grind[sX]
  obtain⟨ab,h1,h2,h3⟩:=Sb parts aa (i+1) (yH arr (i*s) x.cells.toList) (done++sX v) ho (λp ao=>hp p (by simp[ao])) ah (by rw[yK,af];grind) (by grind) (by
   have al:i*s+x.cells.toList.length<=arr.size:=by grind
   have e1:(yH arr (i*s) x.cells.toList).toList.take ((i+1)*s)=arr.toList.take (i*s)++x.cells.toList:=by
    apply Bi;intro j;rw[An];have au:(List.take (i*s) arr.toList).length=i*s:=by grind
    by_cases hj:j<(i+1)*s;.rw[alq hj,Ao,wV _ _ _ _ al];grind
    grind
   rw[e1];exact ae.append ak);grind[yK]|[],_::_,_,_,_,_,_,h,_,_,_=>h.elim|_::_,[],_,_,_,_,_,h,_,_,_=>h.elim
theorem Sc{s:Nat}:∀(parts:List (Nat×V))(aa:List (Nat×Value))(k:Nat)(arr:am0)(done:List V),tU k parts=true->(∀p∈parts,(xT p.2).length=s)->bP (λp q=>p.1=q.1/\dP w L I J p.2 q.2) parts aa->arr.size=(k+parts.length)*s->done.length=k*s->bP (dy w L I J) done (arr.toList.take (k*s))->∃ab,Instr.fill (λi=>some (i*s,s)) arr aa=some ab/\ab.size=arr.size/\bP (dy w L I J) (done++(parts.map λp=>xT p.2).flatten) ab.toList
 |[],[],k,arr,done,_,_,_,af,hd,ae=>by refine⟨arr,rfl,rfl,?_⟩;grind[Ad]|(i,v)::parts,(i',x)::aa,k,arr,done,ho,hp,⟨⟨hi,hr⟩,ah⟩,af,hd,ae=>by
  simp only[tU,Aa,alx]at ho;obtain⟨⟨rfl,ai⟩,ho⟩:=ho;have aj:=hp (i,v) sM;simp only at hi aj;subst hi;have ad:=Ek hr ai;have hlen:=ad.length;simp only[Cv]at hlen;have an:x.cells.size=s:=om;simp only[Ah]at af;have hm:(i+(parts.length+1))*s=i*s+s+parts.length*s:=by grind
  have aq:(i+1)*s=i*s+s:=by grind
  rw[KG (s:=s) rfl an om];have ak:=ad;have ar:(xT v).length=s:=aj;obtain⟨ab,h1,h2,h3⟩:=Sc parts aa (i+1) (yH arr (i*s) x.cells.toList) (done++xT v) ho (λp ao=>hp p (by simp[ao])) ah (by rw[yK,af];grind) (by grind) (by
   have al:i*s+x.cells.toList.length<=arr.size:=by grind
   have e1:(yH arr (i*s) x.cells.toList).toList.take ((i+1)*s)=arr.toList.take (i*s)++x.cells.toList:=by
    apply Bi;intro j;rw[An];have au:(List.take (i*s) arr.toList).length=i*s:=by grind
    by_cases hj:j<(i+1)*s;.rw[alq hj,Ao,wV _ _ _ _ al];grind
    grind
   rw[e1];exact ae.append ak);grind[yK]|[],_::_,_,_,_,_,_,h,_,_,_=>h.elim|_::_,[],_,_,_,_,_,h,_,_,_=>h.elim
theorem bP.iK(h:ez c nt e I a w L J):∀(ps:List (Nat×Operand)),bP (λp q=>p.1=q.1/\dP w L I J p.2 q.2) (ps.map λp=>(p.1,zI e p.2)) (ps.map λp=>(p.1,a.eval p.2))|[]=>trivial|p::ps=>⟨⟨rfl,h.eval p.2⟩,bP.iK h ps⟩
theorem yu5{pos:String}(t:TypeId)(len:Nat)(ps:Array (Nat×Operand))(h:ez c nt e I a w L J):fG (xy ((eV P t).map (·.1)) len (ps.toList.map λp=>(p.1,zI e p.2))) I (bT P c ⟨dst,.buildSlice t len ps,ty,pos,eK,g⟩ a w L I J):=by
 unfold xy;split
 .rename_i s al;split
  .rename_i ae;obtain⟨ho,hlen⟩:=ae;rintro⟨hp,an,hs⟩;obtain⟨el,aj⟩:∃b,eV P t=some (s,b):=by simp_all
   obtain⟨el,i,z,hu,hi,hz,rfl,_,ao,_,_⟩:=rD aj;have ab:=bP.iK h ps.toList;have af:∀aa,Instr.fill (λk=>some (k*i.size,i.size)) ((Array.range (len*i.size)).map (z.cells[·%z.cells.size]!)) (ps.map λ(k,x)=>(k,a.eval x)).toList=some aa->(Instr.buildSlice t len (ps.map λ(k,x)=>(k,a.eval x))).run P w=.ok (.slice (some ⟨w.heap.size,0,none⟩) len len) (w.alloc (.cells aa el)):=by
    intro aa hf;by_cases h0:len*i.size=0
    .have aq:len=0:=by rcases Nat.mul_eq_zero.1 h0 with h|h;all_goals omega
     simp_all[Array.eq_empty_of_size_eq_zero,Instr.buildSlice,run_underlying,sizeOf,typeInfo,newRow]
    grind[run_buildSlice]
   have ah:(ps.map λ(k,x)=>(k,a.eval x)).toList=ps.toList.map λp=>(p.1,a.eval p.2):=sM;obtain⟨aa,hf,ar,ad⟩:=Sb (s:=i.size) _ _ 0 ((Array.range (len*i.size)).map (z.cells[·%z.cells.size]!)) [] ho hp ab (by grind) sM (by simp[bP]);rw[<-ah]at hf;have hr:=af aa hf;have ak:((ps.toList.map λp=>(p.1,zI e p.2)).map λp=>sX p.2).length=len:=by grind
   obtain⟨h1,h2⟩:=h.mem.alloc (.cells aa el) (len*i.size);refine⟨.slice (some ⟨w.heap.size,0,none⟩) len len,_,_,J,(by simp_all[execOp]),h1,h2,Ext.refl _ _,?_⟩;have ai:cM (w.alloc (.cells aa el)) (xQ L w.heap.size (len*i.size)) (.sl .full ((ps.toList.map λp=>(p.1,zI e p.2)).map λp=>sX p.2)) (.slice (some ⟨w.heap.size,0,none⟩) ((ps.toList.map λp=>(p.1,zI e p.2)).map λp=>sX p.2).length len):=by
    refine .k9 (xs:=aa.toList) hs (λr hr=>?_) (by grind[xQ]) om sM om (yM _ _) sM ?_;.obtain⟨p,au,rfl⟩:=Ab.1 hr;grind[sX]
    .simp only[Cc]at ad;exact ad.imp (by grind[cM.mono])
   rw[ak]at ai;trivial
  trivial
 trivial
def fb(P:Program)(t:TypeId):Option (List (Nat×Nat)):=match P.underlying t with |some (.struct fs)=>fs.toList.mapM λf=>(P.info? f.type).map λi=>(f.offset,i.size)|some (.array n el)=>(P.info? el).map λi=>(List.range n).map λk=>(k*i.size,i.size)|_=>none
def Gj(pl:List (Nat×Nat))(cells:List V):List (Nat×V)->Option (List V) |[]=>some cells|(i,v)::r=>(match pl[i]?with |some (off,s)=>if nU v=true/\(xT v).length=s/\off+s<=cells.length then Gj pl (putCells cells off (xT v)) r else none|none=>none)
def AX(zs:Option (List V))(pl:Option (List (Nat×Nat)))(parts:List (Nat×V)):R:=match zs,pl with |some z,some pl=>(match Gj pl z parts with|some cs=>.ok (.agg cs)|none=>.fail)|_,_=>.fail
theorem NN{pl:List (Nat×Nat)}{ah:Nat->Option (Nat×Nat)}(ai:∀i x,pl[i]?=some x->ah i=some x):∀(parts:List (Nat×V))(aa:List (Nat×Value))(cells cs:List V)(arr:am0),Gj pl cells parts=some cs->bP (λp q=>p.1=q.1/\dP w L I J p.2 q.2) parts aa->bP (dy w L I J) cells arr.toList->∃ae,Instr.fill ah arr aa=some ae/\bP (dy w L I J) cs ae.toList
 |[],[],cells,cs,arr,h,_,ab=>by simp[Gj]at h;subst h;exact⟨arr,rfl,ab⟩|(i,v)::parts,(i',x)::aa,cells,cs,arr,h,⟨⟨hi,hr⟩,af⟩,ab=>by
  simp only at hi;subst hi;rw[Gj]at h;split at h
  .rename_i off s hp;split at h;.rename_i hc;have ad:=Ek hr hc.1;have hl:=ad.length;have aj:=ab.length;simp only[Cv]at hl aj;rw[KG (s:=s) (ai _ _ hp) (by rw[<-hl];exact hc.2.1) om];exact NN ai parts aa _ cs _ h af (by grind[RW])
   grind
  grind|[],_::_,_,_,_,_,h,_=>h.elim|_::_,[],_,_,_,_,h,_=>h.elim
theorem xW6{pos:String}(t:TypeId)(ps:Array (Nat×Operand))(h:ez c nt e I a w L J):fG (AX (xF P t) (fb P t) (ps.toList.map λp=>(p.1,zI e p.2))) I (bT P c ⟨dst,.build t ps,ty,pos,eK,g⟩ a w L I J):=by
 unfold AX;split
 .rename_i z pl hz ad;split
  .rename_i cs hf;obtain⟨i,zv,hi,ah,ai,rfl⟩:=KC hz;have ab:=bP.iK h ps.toList;have ae:bP (dy w L I J) (zv.cells.toList.map jE) zv.cells.toList:=(NJ ai).imp λ_ _=>dy.dJ;have aj:(ps.map λ(k,x)=>(k,a.eval x)).toList=ps.toList.map λp=>(p.1,a.eval p.2):=sM;have af:∃aa,P.built t (ps.map λ(k,x)=>(k,a.eval x)).toList=some aa/\bP (dy w L I J) cs aa.toList:=by
    unfold fb at ad;unfold Program.built;rw[hi,aj];split at ad;.rename_i fs hu;simp only[hu,ah,ad];exact NN sM _ _ _ _ _ hf ab ae
    .rename_i n el hu;cases ak:P.info? el with |none=>grind|some ie=>simp only[ak,Bf,alu]at ad;subst ad;simp only[hu,ah,ak];refine NN (λk x hk=>?_) _ _ _ _ _ hf ab ae;grind
    grind
   obtain⟨aa,hb,al⟩:=af;refine bT.pure h (x:=.agg aa) ?_ ⟨aa.toList,sM,al⟩;simp_all[run_build,execOp]
  trivial
 trivial
def o9(v:Option V)(d:Int):Option Int:=match v with |none=>some d|some (.int _ n)=>some n|some _=>none
def tW(ar:Option (Nat×Nat×Bool))(k:Nat)(es:am2)(x:V)(lo hi:Option V):R:=match x with
 |.cS id s n l0 m=>(match o9 lo 0,o9 hi m,es with |some l,some h,some z=>if k=2then .eP (0<=l/\l<=h/\(h<=m\/(l0:Int)+h<=n)/\z=s) (.cS id s n (l0+l.toNat) (h-l).toNat)else .fail|_,_,_=>.fail)|.ptr id off=>(match lo,hi,ar with |none,none,some (n,s,_)=>.ok (.kF id s off n)|_,_,_=>.fail)|.str s=>(match o9 lo 0,o9 hi s.length with |some l,some h=>if k=1then .eP (0<=l/\l<=h/\h<=s.length) (.str ((s.take h.toNat).drop l.toNat))else .fail|_,_=>.fail)|.sl _ rows=>(match o9 lo 0,o9 hi rows.length,es with |some l,some h,some z=>if k=2then .eP (0<=l/\l<=h/\h<=rows.length/\eU z rows) (.sl .ro ((rows.take h.toNat).drop l.toNat))else .fail|_,_,_=>.fail)|_=>.fail
theorem vK{v:Value}{k:IntKind}{i:Int}{y:Nat}{code:BoundsCode}(hv:v=.int k i)(h0:0<=i)(hy:i<=y)(w:World):(Instr.sliceBound v y code).run P w=.ok i.toNat w:=by simp_all[Instr.sliceBound,asIntOf]
theorem xN4{x:Option Operand}{d n:Int}(hb:o9 (x.map (zI e)) d=some n)(h:ez c nt e I a w L J):(x=none/\n=d)\/∃p k,x=some p/\a.eval p=.int k n:=by
 unfold o9 at hb;split at hb;.simp_all
 .rename_i k m hx;cases x with |none=>grind|some p=>simp at hx hb;subst hb;exact .inr ⟨p,k,rfl,yQ (hx▸h.eval p)⟩
 grind
theorem KH{Ib:Bool}{len l hh:Nat}{lo hi:Option Value}(aa:(lo=none/\l=0)\/∃k,lo=some (.int k l))(ab:(hi=none/\hh=len)\/∃k,hi=some (.int k hh))(h1:l<=hh)(h2:hh<=cap)(w:World):(Instr.sliceBounds Ib len cap lo hi none).run P w=.ok (l,hh,cap) w:=by
 rcases aa with⟨rfl,rfl⟩|⟨k,rfl⟩<;>rcases ab with⟨rfl,rfl⟩|⟨k',rfl⟩;.rfl
 .have:=λcode=>vK (P:=P) (code:=code) (v:=.int k' hh) (y:=cap) rfl om om w;simp_all[Instr.sliceBounds]
 .have:=λcode=>vK (P:=P) (code:=code) (v:=.int k l) (y:=hh) rfl om om w;simp_all[Instr.sliceBounds]
 .have e1:=λcode=>vK (P:=P) (code:=code) (v:=.int k l) (y:=hh) rfl om om w;have e2:=λcode=>vK (P:=P) (code:=code) (v:=.int k' hh) (y:=cap) rfl om om w;simp_all[Instr.sliceBounds]
theorem xh4(s:alW)(l h:Nat):(ByteArray.mk s.toArray).extract l h=ByteArray.mk ((s.take h).drop l).toArray:=by apply ByteArray.ext;grind[ByteArray.data_extract]
theorem cM.sub{rows:List (List V)}{s l hh:Nat}{ad:Option Addr}(r:cM w L (.sl .ro rows) (.slice ad n cap))(hs:0<s)(hu:eU s rows)(h1:l<=hh)(h2:hh<=rows.length):cM w L (.sl .ro ((rows.take hh).drop l)) (.slice (if cap=l then ad else ad.map (·.add (l*s))) (hh-l) (cap-l)):=by
 have hlen:((rows.take hh).drop l).length=hh-l:=by grind
 by_cases h0:hh-l=0;.have ae:(rows.take hh).drop l=[]:=(by grind);rw[ae,h0];exact .jI _ _ _ sM sM
 .have af:rows≠[]:=(by grind);obtain⟨s',b,o',ak,e1,ah,aa,fD,dG,_,hc⟩:=r.flat af;cases e1;have ai:s'=s:=by obtain⟨r0,rest,rfl⟩:=Co af;rw[<-aa r0 sM,hu r0 sM]
  subst ai;rw[alp om];simp only[Bf,wM];have hm:(rows.length)*s'=l*s'+(hh-l)*s'+(rows.length-hh)*s':=by rw[<-B5,<-B5];grind
  rw[<-hlen];have ab:eU s' ((rows.take hh).drop l):=λq hq=>aa q (by grind);refine .of_flat ah ab (by grind) om sM sM λk v hk=>?_;have al:k<(hh-l)*s':=by have:=(A3.1 hk).1;rwa[yE ab,hlen]at this
  have hi:k/s'<hh-l:=by simp_all[C9]
  have hj:k%s'<s':=Cw _ ah;have aj:k=k/s'*s'+k%s':=by grind[Cx]
  rw[aj,yS _ _ ab hj]at hk;rw[Cb,An,alq om]at hk;have an:rows.flatten[(l+k/s')*s'+k%s']?=some v:=by rw[yS _ _ aa hj];exact hk
  grind
theorem xX5{pos:String}(t:TypeId)(x:Operand)(lo hi:Option Operand)(h:ez c nt e I a w L J):fG (tW (ja P t) (dU P t) ((eV P t).map (·.1)) (zI e x) (lo.map (zI e)) (hi.map (zI e))) I (bT P c ⟨dst,.slice t x lo hi none,ty,pos,eK,g⟩ a w L I J):=by
 have hx:=h.eval x;have conv:∀{z:Option Operand}{d n:Int}{m:Nat},o9 (z.map (zI e)) d=some n->n=m->∀{dn:Nat},d=dn->((z.map a.eval)=none/\m=dn)\/∃k,(z.map a.eval)=some (.int k m):=by intro z d n m hz hn dn hd;rcases xN4 hz h with⟨rfl,q⟩|⟨p,k,rfl,q⟩;all_goals grind
 unfold tW;split
 .rename_i id s n l0 m h1;rw[h1]at hx;split
  .rename_i l hh z hl aa hz;split
   .rename_i hk;obtain⟨ai,aj⟩:=vJ hk;rintro⟨a0,a1,a2,rfl⟩;have r1:=conv hl (m:=l.toNat) om (dn:=0) rfl;have r2:=conv aa (m:=hh.toNat) om (dn:=m) rfl;obtain⟨ak,ab⟩:∃b,eV P t=some (z,b):=by simp_all
    obtain⟨el,i,zz,hu,al,an,rfl,_,ao,hs,_⟩:=rD ab;obtain⟨ad,cap,hv,aw,ae,hc⟩:=hx;have aq:hh.toNat<=cap:=om;have:=KH (P:=P) (Ib:=true) (len:=m) (cap:=cap) r1 r2 om aq w;refine bT.pure h (x:=.slice (if cap=l.toNat then ad else ad.map (·.add (l.toNat*i.size))) (hh.toNat-l.toNat) (cap-l.toNat)) ?_ ?_;.simp_all[execOp,Instr.sliceAt,run_underlying,Instr.slice,sizeOf,typeInfo]
    .refine⟨_,cap-l.toNat,by rw[show(hh-l).toNat=hh.toNat-l.toNat by omega],om,λhp=>?_,?_⟩;.obtain⟨b,o,rfl⟩:=ae om;rw[alp om];simp[wM]
     .rcases hc with hd|⟨rows,cP,hn,hb⟩;.grind
      .refine .inr ⟨rows,cP,hn,λq1=>?_⟩;obtain⟨b0,c0,dD,ax,ar,af⟩:=hb q1;clear hb ae;refine⟨b0,c0,dD,om,om,λay=>?_⟩;obtain⟨k0,e1,e2⟩:=af om;simp_all[wM,B5];omega
   trivial
  trivial
 .rename_i id off h1;rw[h1]at hx;split
  .rename_i n sz ag ar az au;obtain⟨bl,hb,hv⟩:=hx;obtain⟨el,hu,ab,_⟩:=KD au;have e1:lo=none:=by simp_all
   have e2:hi=none:=by simp_all
   subst e1 e2;refine bT.pure h (x:=.slice (some ⟨bl,off,none⟩) n n) ?_ ⟨bl,hb,rfl⟩;simp_all[execOp,Instr.sliceAt,run_underlying,Instr.sureAddr,Instr.sliceBounds,pI,wM]
  trivial
 .rename_i s h1;rw[h1]at hx;split
  .rename_i l hh hl aa;split;.rename_i hk;have hu:=KE hk;rintro⟨a0,a1,a2⟩;have r1:=conv hl (m:=l.toNat) om (dn:=0) rfl;have r2:=conv aa (m:=hh.toNat) om (dn:=s.length) rfl;refine bT.pure h (x:=.string ⟨((s.take hh.toNat).drop l.toNat).toArray⟩) ?_ (cM.str _);have:=KH (P:=P) (Ib:=false) (len:=(ByteArray.mk s.toArray).size) (cap:=(ByteArray.mk s.toArray).size) r1 (by rw[AV];exact r2) om (by rw[AV];omega) w;simp[execOp,lU hx,Instr.sliceAt,run_underlying hu,Instr.slice,this,xh4]
   trivial
  trivial
 .rename_i gg rows h1;rw[h1]at hx;split
  .rename_i l hh z hl aa hz;split
   .rename_i hk;obtain⟨ai,aj⟩:=vJ hk;rintro⟨a0,a1,a2,av⟩;have r1:=conv hl (m:=l.toNat) om (dn:=0) rfl;have r2:=conv aa (m:=hh.toNat) om (dn:=rows.length) rfl;obtain⟨ak,ab⟩:∃b,eV P t=some (z,b):=by simp_all
    obtain⟨el,i,zz,hu,al,an,rfl,_,ao,hs,_⟩:=rD ab;have hr:=tQ hx;obtain⟨base,cap,hv,a6,_⟩:=hr.len;rw[hv]at hr;have ah:=hr.sub (l:=l.toNat) (hh:=hh.toNat) hs av om om;refine bT.pure h (x:=.slice (if cap=l.toNat then base else base.map (·.add (l.toNat*i.size))) (hh.toNat-l.toNat) (cap-l.toNat)) ?_ ah;have:=KH (P:=P) (Ib:=true) (len:=rows.length) (cap:=cap) r1 r2 om om w;simp_all[execOp,Instr.sliceAt,run_underlying,Instr.slice,sizeOf,typeInfo]
   trivial
  trivial
 trivial
def AY(k:Nat)(es:am2)(I:St)(x lo:V):R:=match x,lo,es with |.sl (.app id) rows,.int _ l,some z=>(match I[id]?with |some (.app n s)=>if k=2then .dR (0<=l/\l<=rows.length/\rows.length=n/\z=s) (.sl (.app I.length) (rows.drop l.toNat)) (I.set id (.app (n+1) s)++[.app (n-l.toNat) s])else .fail|_=>.fail)|_,_,_=>.fail
theorem Ext.Es{i s m:Nat}{x y:Value}(hi:I[i]?=some (.app n s))(dD:J[i]?=some x)(hx:∀a,x≠.pointer a)(aa:n<m):Ext I J (I.set i (.app m s)) (J.set i y):=by have ab:i<I.length:=(by grind);refine⟨(by grind),(by grind),(by grind),(by grind)⟩;all_goals grind
theorem xH0{pos:String}(t:TypeId)(x lo:Operand)(h:ez c nt e I a w L J):fG (AY (dU P t) ((eV P t).map (·.1)) I (zI e x) (zI e lo)) I (bT P c ⟨dst,.slice t x (some lo) none none,ty,pos,eK,g⟩ a w L I J):=by
 have hx:=h.eval x;have ai:=h.eval lo;unfold AY;split
 .rename_i id rows kk l z h1 h2 hz;rw[h1]at hx;rw[h2]at ai;split
  .rename_i n s cP;split
   .rename_i hk;obtain⟨a8,aA⟩:=vJ hk;rintro⟨a0,a1,hn,aj⟩;subst aj;obtain⟨aB,ao⟩:∃b,eV P t=some (z,b):=by simp_all
    obtain⟨el,i,zz,hu,aC,aD,rfl,_,aE,hs,_⟩:=rD ao;obtain⟨hr,n',s',e1,hle,aq,ar⟩:=hx;rw[cP]at e1;cases e1;have dD:=aq hn;have cZ:=h.mem.dE id _ _ cP dD;obtain⟨ad,cap,hv,au,ak,aa⟩:=cZ;rw[hv]at hr dD;have aF:id<I.length:=(by grind);subst hn;have ae:=hr.sub (l:=l.toNat) (hh:=rows.length) hs ar om om;rw[Ad (A7 _)]at ae;have hb:=KH (P:=P) (Ib:=true) (len:=rows.length) (cap:=cap) (l:=l.toNat) (hh:=rows.length) (lo:=some (a.eval lo)) (hi:=none) (.inr ⟨kk,by rw[yQ ai];grind⟩) sM om au w;have ab:Ext I J (I.set id (.app (rows.length+1) i.size)) (J.set id (.slice none (rows.length+1) (rows.length+1))):=(by grind[Ext.Es]);have al:Mem c w L (I.set id (.app (rows.length+1) i.size)) (J.set id (.slice none (rows.length+1) (rows.length+1))):=by
     refine h.mem.ft id _ _ (Le.refl _ _) ab (λ_=>False) sM sM sM rfl rfl rfl rfl h.mem.lim ?_ (λb q=>?_);.exact⟨none,_,rfl,om,ak,om⟩
     trivial
    have hex:∀b,dt (.app (rows.length-l.toNat) i.size) (.slice (if cap=l.toNat then ad else ad.map (·.add (l.toNat*i.size))) (rows.length-l.toNat) (cap-l.toNat))=some b->dt (.app rows.length i.size) (.slice ad rows.length cap)=some b:=λb q=>by
     clear aa;by_cases q1:cap=l.toNat;.rw[alq q1]at q;cases ad<;>simp_all[dt]
     .rw[alp q1]at q;cases ad with|none=>simpa|some a1=>
       simp only[dt,Bf]at q⊢;split at q;.rename_i q2;rw[alq om];rw[<-q];unfold Addr.add;grind
       grind
    have av:=al.push (.app (rows.length-l.toNat) i.size) (.slice (if cap=l.toNat then ad else ad.map (·.add (l.toNat*i.size))) (rows.length-l.toNat) (cap-l.toNat)) ⟨_,_,rfl,om,ak,λq=>by
      have q0:rows.length<cap:=om;obtain⟨b,o,arr,T,fz,rfl,hh,hf,a7,hL⟩:=aa q0;have q1:¬cap=l.toNat:=om;refine⟨b,o+l.toNat*i.size,arr,T,fz,by simp_all[wM],hh,hf,?_,?_⟩;.rw[E1,<-B5];grind
      .rw[hL,E1,<-B5];grind⟩ (λj o' x' b aw an he af=>by
      have ax:=hex b af;rcases pH aw with⟨rfl,rfl,_⟩|⟨ay,az⟩;.rcases pH an with⟨_,rfl,_⟩|⟨q,_⟩;all_goals trivial
      .rcases pH an with⟨q,_,_⟩|⟨_,a6⟩;.omega
       .exact h.mem.apart j id _ _ _ _ b ay az a6 cP dD he ax) (λb af=>h.mem.gA id _ _ b cP dD (hex b af));have ah:=ab.trans (Ext.push _ _ al.len (.app (rows.length-l.toNat) i.size) (.slice (if cap=l.toNat then ad else ad.map (·.add (l.toNat*i.size))) (rows.length-l.toNat) (cap-l.toNat)));refine⟨_,w,L,_,.inl ?_,av,Le.refl _ _,ah,ae,rows.length-l.toNat,i.size,sM,sM,λ_=>by simp[h.mem.len],(by grind)⟩;simp_all[execOp,Instr.sliceAt,run_underlying,Instr.slice,sizeOf,typeInfo]
   trivial
  trivial
 trivial
def AZ(es:am2)(x lo hi mx:V):R:=match x,lo,hi,mx,es with |.sl _ rows,.int _ l,.int _ h,.int _ m,some z=>.eP (0<=l/\l<=h/\h<=rows.length/\m=h/\eU z rows) (.sl .full ((rows.take h.toNat).drop l.toNat))|.cS _ s _ _ n,.int _ l,.int _ h,.int _ m,some z=>.eP (0<=l/\l<=h/\h<=m/\m<=n/\z=s) (if l=m then .sl .full []else .u)|_,_,_,_,_=>.fail
theorem cM.full{rows:List (List V)}{ad:Option Addr}(r:cM w L (.sl .ro rows) (.slice ad n n))(hn:n=rows.length):cM w L (.sl .full rows) (.slice ad n n):=by cases r with |jI _ a cap hg ha=>exact .jI _ _ _ om sM|sl _ _ s b o cap c ha hs hlen fD dG hg hc hr=>exact .sl _ rows s b o _ c sM hs hlen fD dG om hc hr
theorem cM.shrink{rows:List (List V)}{s M:Nat}{base:Option Addr}(hr:cM w L (.sl .ro rows) (.slice base n cap))(hs:0<s)(ad:eU s rows)(hM:M<=rows.length):cM w L (.sl .ro (rows.take M)) (.slice base M M):=by
 have hlen:(rows.take M).length=M:=by grind
 by_cases h0:M=0;.subst h0;exact .jI _ _ _ om sM
 .have aa:rows≠[]:=(by grind);obtain⟨s',b,o',ah,q,ae,ab,fD,dG,_,hc⟩:=hr.flat aa;cases q;have af:s'=s:=by obtain⟨r0,rest,rfl⟩:=Co aa;rw[<-ab r0 sM,ad r0 sM]
  subst af;have hm:M*s'<=rows.length*s':=Ak _ hM;have key:cM w L (.sl .ro (rows.take M)) (.slice (some ⟨b,o',none⟩) (rows.take M).length M):=by refine .of_flat ae (λq hq=>ab q (by grind)) (by grind) om sM om λk v hk=>hc k v ?_;grind[B0]
  grind
theorem xG9{pos:String}(t:TypeId)(x lo hi mx:Operand)(h:ez c nt e I a w L J):fG (AZ ((eV P t).map (·.1)) (zI e x) (zI e lo) (zI e hi) (zI e mx)) I (bT P c ⟨dst,.slice t x (some lo) (some hi) (some mx),ty,pos,eK,g⟩ a w L I J):=by
 have hx:=h.eval x;have h2:=h.eval lo;have h3:=h.eval hi;have h4:=h.eval mx;unfold AZ;split
 .rename_i gg rows k1 l k2 hh k3 m z e1 e2 e3 e4 hz;rw[e1]at hx;rw[e2]at h2;rw[e3]at h3;rw[e4]at h4;have e2:=yQ h2;have e3:=yQ h3;have e4:=yQ h4;rintro⟨a0,a1,a2,rfl,af⟩;obtain⟨ah,ab⟩:∃b,eV P t=some (z,b):=by simp_all
  obtain⟨el,i,zz,hu,ai,aj,rfl,_,ak,hs,_⟩:=rD ab;have hr:=tQ hx;obtain⟨base,cap,hv,an,_⟩:=hr.len;rw[hv]at hr;have ae:=hr.shrink (M:=m.toNat) hs af om;have aa:=ae.sub (l:=l.toNat) (hh:=m.toNat) hs (λq hq=>af q (by grind)) om (by grind);rw[alR,Nat.min_self]at aa;refine bT.pure h (x:=.slice (if m.toNat=l.toNat then base else base.map (·.add (l.toNat*i.size))) (m.toNat-l.toNat) (m.toNat-l.toNat)) ?_ (aa.full (by grind));have b1:=λcode=>vK (P:=P) (code:=code) e2 a0 (show l<=(m.toNat:Nat)by omega) w;have b2:=λcode=>vK (P:=P) (code:=code) e3 om (show m<=(m.toNat:Nat)by omega) w;have b3:=λcode=>vK (P:=P) (code:=code) e4 om (show m<=(cap:Nat)by omega) w;simp_all[run_underlying,execOp,Instr.sliceAt,Instr.slice,Instr.sliceBounds,sizeOf,typeInfo]
 .rename_i id s n0 ao n k1 l k2 hh k3 m z e1 e2 e3 e4 hz;rw[e1]at hx;rw[e2]at h2;rw[e3]at h3;rw[e4]at h4;have e2:=yQ h2;have e3:=yQ h3;have e4:=yQ h4;rintro⟨a0,a1,a2,a3,rfl⟩;obtain⟨ah,ab⟩:∃b,eV P t=some (z,b):=by simp_all
  obtain⟨el,i,zz,hu,ai,aj,rfl,_,ak,hs,_⟩:=rD ab;obtain⟨ad,cap,hv,al,_,_⟩:=hx;refine bT.pure h (x:=.slice (if m.toNat=l.toNat then ad else ad.map (·.add (l.toNat*i.size))) (hh.toNat-l.toNat) (m.toNat-l.toNat)) ?_ (by
   split;.have h1:hh.toNat-l.toNat=0:=om;have h2:m.toNat-l.toNat=0:=om;rw[h1,h2];exact cM.jI _ _ _ om sM
   trivial);have b1:=λcode=>vK (P:=P) (code:=code) e2 a0 (show l<=(hh.toNat:Nat)by omega) w;have b2:=λcode=>vK (P:=P) (code:=code) e3 om (show hh<=(m.toNat:Nat)by omega) w;have b3:=λcode=>vK (P:=P) (code:=code) e4 om (show m<=(cap:Nat)by have:=al.1;omega) w;simp_all[execOp,Instr.sliceAt,run_underlying,Instr.slice,Instr.sliceBounds,sizeOf,typeInfo]
 trivial
end
section
variable{P:Program}{c:Ctx}{nt:Nat}{e:Env}{I:St}{a:Act}{w:World}{L:Nat->Nat}{J:alY}{o:Oper}
variable{dst:Option Tmp}{ty:TypeId}{eK:Array Edge}{g:Option (Nat×Bool)}{t:TypeId}
def vL:List V->UInt8|[.int _ n]=>UInt8.ofNat n.toNat|_=>0
def Ie(rows:List (List V)):Prop:=∀r∈rows,∃n,r=[.int .u8 n]
theorem xX(s:alW):Ie (zU s):=λr hr=>by obtain⟨b,_,rfl⟩:=Ab.1 hr;simp
theorem Gk(s:alW):(zU s).map vL=s:=by simp[zU,Bb,vL]
def xz(ks kd:Option Kd)(x:V):R:=match kd,x with |some (.int k),.int _ n=>if ks.isSome then .ok (.int k (k.wrap n))else .fail|some .str,.str s=>if ks.isSome then .ok (.str s)else .fail|some .bytes,.str s=>if ks=some .str then .ok (.sl .ro (zU s))else .fail|some .str,.sl _ rows=>if ks=some .bytes then .eP (Ie rows) (.str (rows.map vL))else .fail|_,_=>.fail
theorem wk3{k:IntKind}(h:j9 P t=some (.int k)):P.underlying t=some (.int k):=by grind[j9]
theorem Gl(h:j9 P t=some .str):P.underlying t=some .string:=by grind[j9]
theorem NO(h:j9 P t=some .bytes):∃el,P.underlying t=some (.slice el)/\P.underlying el=some (.int .u8):=by grind[j9]
theorem Sd(h:(j9 P t).isSome):∃d,P.underlying t=some d:=by grind[j9]
theorem xI3{rows:List (List V)}(h:Ie rows):∃xs:alZ,rows=xs.map (λn=>[V.int .u8 n]):=by induction rows with |nil=>simp|cons r rows ih=>obtain⟨n,hn⟩:=h r sM;obtain⟨xs,hx⟩:=ih λq hq=>h q (by grind);exact⟨n::xs,by grind⟩
theorem wm0{pos:String}(t t':TypeId)(x:Operand)(h:ez c nt e I a w L J):fG (xz (j9 P t) (j9 P t') (zI e x)) I (bT P c ⟨dst,.convert t t' x,ty,pos,eK,g⟩ a w L I J):=by
 have hx:=h.eval x;unfold xz;split
 .rename_i k k' n hk h1;rw[h1]at hx;split;.rename_i hs;obtain⟨d,hd⟩:=Sd hs;exact bT.pure h (x:=.int k (k.wrap n)) (by simp[execOp,yQ hx,convert,run_underlying hd,run_underlying (wk3 hk),Conv.intToInt]) (cM.int _ _)
  trivial
 .rename_i s hk h1;rw[h1]at hx;split;.rename_i hs;obtain⟨d,hd⟩:=Sd hs;exact bT.pure h (x:=.string ⟨s.toArray⟩) (by simp[execOp,lU hx,convert,run_underlying hd,run_underlying (Gl hk)]) (cM.str _)
  trivial
 .rename_i s hk h1;rw[h1]at hx;split
  .rename_i hs;obtain⟨el,hu,he⟩:=NO hk;have hr:=run_bytes_of_string (P:=P) w t t' el ⟨s.toArray⟩ (Gl hs) hu he;have hd:=h.mem.drew;obtain⟨h1,h2⟩:=hd.1.alloc (.cells (bytesRow ⟨s.toArray⟩ (grownCap w (ByteArray.mk s.toArray).size 0 el)) el ((bytesRow ⟨s.toArray⟩ (grownCap w (ByteArray.mk s.toArray).size 0 el)).size,(bytesRow ⟨s.toArray⟩ (grownCap w (ByteArray.mk s.toArray).size 0 el)).size+1)) s.length;refine⟨_,_,_,J,.inl (by simp only[execOp,lU hx,Sem.run_bind,hr,Result.andThen_ok,Sem.run_pure];rfl),h1,hd.2.trans h2,Ext.refl _ _,?_⟩;have ah:=grownCap_ge w (ByteArray.mk s.toArray).size 0 el;have hl:(zU s).length=s.length:=by simp[zU]
   have:cM (w.drew.alloc (.cells (bytesRow ⟨s.toArray⟩ (grownCap w (ByteArray.mk s.toArray).size 0 el)) el ((bytesRow ⟨s.toArray⟩ (grownCap w (ByteArray.mk s.toArray).size 0 el)).size,(bytesRow ⟨s.toArray⟩ (grownCap w (ByteArray.mk s.toArray).size 0 el)).size+1))) (xQ L w.drew.heap.size s.length) (.sl .ro (zU s)) (.slice (some ⟨w.drew.heap.size,0,none⟩) (zU s).length (grownCap w (ByteArray.mk s.toArray).size 0 el)):=by refine .k9 (xs:=byteCells ⟨s.toArray⟩) (s:=1) om (RY s) (by grind[xQ]) (by grind[AV]) sM sM (yM _ _) (λk v hk=>?_) (Kw s);have ai:=(A3.1 hk).1;simp_all[bytesRow,Dr,byteCells]
   rw[hl,<-AV s]at this;simpa
  trivial
 .rename_i gg rows hk h1;rw[h1]at hx;split
  .rename_i hs;obtain⟨el,hu,he⟩:=NO hs;intro hb;obtain⟨xs,rfl⟩:=xI3 hb;have hr:=tQ hx;have ab:(xs.map λn=>[V.int .u8 n]).map vL=xs.map λn:Int=>UInt8.ofNat n.toNat:=by rw[B8];rfl
   rw[ab];refine bT.pure h (x:=.string ⟨(xs.map λn:Int=>UInt8.ofNat n.toNat).toArray⟩) ?_ (cM.str _);by_cases h0:xs=[]
   .subst h0;obtain⟨base,cap,hv,_,_⟩:=hr.len;have aa:(convert t t' (.slice base 0 cap)).run P w=.ok (.string ByteArray.empty) w:=by cases base with|none=>grind[run_convert_bytes_nil,Gl]|some ad=>obtain⟨b,off,sp⟩:=ad;rw[run_convert_bytes_string w t t' el _ 0 cap hu he (Gl hk),run_bytesToString w _ 0 cap [] (by simp[loadCells,loadCellsFrom])];rfl
    simp only[Bq,Cy]at hv;simp only[execOp,hv,Sem.run_bind,aa,Result.andThen_ok,Sem.run_pure];rfl
   .obtain⟨s,b,o',cap,hv,aj,ae,_,_,_,hc⟩:=hr.flat (by simp_all);have af:s=1:=by obtain⟨n,rest,rfl⟩:=Co h0;exact(ae [.int .u8 n] sM).symm
    subst af;have aa:=run_convert_bytes_arg (P:=P) w t el hu he b o' xs.length cap xs rfl (λi hi=>by
     obtain⟨y,hy,r⟩:=hc i (.int .u8 (xs.getD i 0)) (by have:=yS (rows:=xs.map λn=>[V.int .u8 n]) i 0 ae om;grind);have:y=.int .u8 (xs.getD i 0):=by cases r;rfl
     grind) t' (Gl hk);simp only[Au]at hv;simp only[execOp,hv,Sem.run_bind,aa,Result.andThen_ok,Sem.run_pure];rfl
  trivial
 trivial
def BB(fl:Option (Nat×Nat×Bool))(x:V):R:=match fl,x with |some (off,s,true),.agg cs=>if off+s<=cs.length then .ok (.agg ((cs.drop off).take s))else .fail|some (off,_,false),.agg cs=>(match cs[off]?with|some v=>.ok v|none=>.fail)|_,_=>.fail
theorem xX0{pos:String}(t:TypeId)(x:Operand)(f:Nat)(h:ez c nt e I a w L J):fG (BB (cu P t f) (zI e x)) I (bT P c ⟨dst,.field t x f,ty,pos,eK,g⟩ a w L I J):=by
 have hx:=h.eval x;unfold BB;split
 .rename_i off s cs hf h1;rw[h1]at hx;split;.rename_i hle;obtain⟨xs,hv,aa⟩:=hx;obtain⟨fs,fd,hu,ab,rfl,hs,hb,h0⟩:=NG hf;have hl:=aa.length;refine bT.pure h (x:=.agg ((xs.drop fd.offset).take s).toArray) ?_ ⟨_,rfl,(aa.drop _).take _⟩;simp_all[execOp,Instr.field,run_underlying,asAgg,part,vH,pI]
  trivial
 .rename_i off s cs hf h1;rw[h1]at hx;split;.rename_i v ad;obtain⟨xs,hv,aa⟩:=hx;obtain⟨fs,fd,hu,ab,rfl,hs,hb,h0⟩:=NG hf;obtain⟨y,hy,r⟩:=aa.get _ _ ad;refine bT.pure h (x:=y) ?_ (dP.dX r);simp_all[execOp,Instr.field,run_underlying,asAgg,part,vH]
  trivial
 trivial
def Ig(v:V):Bool:=o7 v||(match v with|.ptr _ _|.pG _ _|.cS _ _ _ _ _|.jk _ _ _ _ _|.kF _ _ _ _|.mp _=>true|_=>false)
theorem wG0{v:V}{x:Value}(r:dP w L I J v x)(h:Ig v):il w L I J v x:=by cases v<;>first|exact r|simp[Ig,o7]at h
def BC(fn:Fn)(first:Nat)(cd:List V):R:=match fn with |.func f=>if first=0/\cd.all Ig=true then .ok (.fn f cd)else .fail|_=>.fail
theorem wm1{pos:String}(fn:Fn)(first cd:Array Operand)(h:ez c nt e I a w L J):fG (BC fn first.size (cd.toList.map (zI e))) I (bT P c ⟨dst,.makeFunc fn first cd,ty,pos,eK,g⟩ a w L I J):=by
 unfold BC;split
 .rename_i f;split
  .rename_i hc;obtain⟨h0,hk⟩:=hc;have hf:first=#[]:=(by grind);subst hf;refine bT.pure h (x:=.func (.func f) #[] (cd.toList.map a.eval).toArray) (by simp[execOp,Instr.makeFunc];grind) ⟨_,rfl,?_⟩;have:∀l:List Operand,(l.map (zI e)).all Ig=true->bP (il w L I J) (l.map (zI e)) (l.map a.eval):=by intro l;induction l with |nil=>intro _;trivial|cons p l ih=>intro hl;simp at hl;exact⟨wG0 (h.eval p) hl.1,(by grind)⟩
   grind
  trivial
 trivial
def jJ(P:Program)(t:TypeId):Option (List V):=match P.underlying t with |some (.slice el)=>xF P el|_=>none
def x5(el:Option (Nat×Nat))(zs:Option (List V))(I:St)(l m:V):R:=match el,zs,l,m with |some (s,lW),some z,.int .i64 n,.int .i64 k=>.dR (0<=n/\n<=k/\k.toNat*lW<=140737488355328) (.sl (.app I.length) (List.replicate n.toNat z)) (I++[.app n.toNat s])|_,_,_,_=>.fail
theorem Se{z:am0}{s N:Nat}(hz:z.size=s)(hs:0<s)(k:Nat)(hk:k<N*s):((Array.range (N*s)).map (z[·%z.size]!))[k]?=some (z.toList[k%s]'(by simp_all[Cw])):=by grind
theorem Sf{s ab:Nat}{z:List V}{n k:Int}(al:eV P t=some (s,ab))(hz:jJ P t=some z)(h0:0<=n)(hle:n<=k)(hb:k.toNat*ab<=140737488355328)(w:World)(L:Nat->Nat):∃(el:TypeId)(cells:am0),(Instr.makeSlice t (.int .i64 n) (.int .i64 k)).run P w=.ok (.slice (some ⟨w.heap.size,0,none⟩) n.toNat k.toNat) (w.alloc (.cells cells el))/\cells.size=k.toNat*s/\0<s/\eU s (List.replicate n.toNat z)/\bP (cM w L) (List.replicate n.toNat z).flatten (cells.toList.take (n.toNat*s)):=by
 obtain⟨el,i,zz,hu,hi,ad,rfl,rfl,an,hs,ao⟩:=rD al;unfold jJ at hz;rw[hu]at hz;obtain⟨i',a8,ae,aa,a1,rfl⟩:=KC hz;rw[hi]at ae;cases ae;rw[ad]at aa;cases aa;have hk:k.toNat<=140737488355328:=Ax (Nat.le_mul_of_pos_right _ ao) hb;have af:IntKind.i64.wrap n=n:=by grind[IntKind.wrap_i64]
 have ah:IntKind.i64.wrap k=k:=by grind[IntKind.wrap_i64]
 have aq:(i.bytes:Int)*k=((k.toNat*i.bytes:Nat):Int):=by grind
 have ai:¬(281474976710656<(i.bytes:Int)*k):=om;have q1:¬k<0:=om;have q2:¬n<0:=om;have q3:¬k<n:=by omega
 let cells:am0:=(Array.range (k.toNat*i.size)).map (zz.cells[·%zz.cells.size]!);have a6:(Instr.makeSlice t (.int .i64 n) (.int .i64 k)).run P w=.ok (.slice (some ⟨w.heap.size,0,none⟩) n.toNat k.toNat) (w.alloc (.cells cells el)):=by
  by_cases aj:k.toNat*i.size=0
  .have:∀f:Nat->Value,(Array.range 0).map f=#[]:=sM;have ar:cells=#[]:=by grind
   rw[ar];simp[Instr.makeSlice,run_underlying hu,asInt,asIntOf,typeInfo,hi,af,ah,ai,q1,q2,q3,sizeOf,aj,newRow,this]
  .simp[Instr.makeSlice,run_underlying hu,asInt,asIntOf,typeInfo,hi,af,ah,ai,q1,q2,q3,sizeOf,aj,newRow,zeroValue,ad,cells]
 have au:zz.cells.toList.length=i.size:=om;have av:eU i.size (List.replicate n.toNat (zz.cells.toList.map jE)):=λr hr=>by grind
 have aw:n.toNat<=k.toNat:=om;have hmul:n.toNat*i.size<=k.toNat*i.size:=Ak _ aw;have hlen:(List.replicate n.toNat (zz.cells.toList.map jE)).length=n.toNat:=sM;have a7:bP (cM w L) (List.replicate n.toNat (zz.cells.toList.map jE)).flatten (cells.toList.take (n.toNat*i.size)):=by
  refine bP.of ?_ λj p x hp hx=>?_;.grind[yE]
  .have ax:j<n.toNat*i.size:=by grind
   have ay:j/i.size<n.toNat:=by rw[C9 hs];omega
   have ak:j%i.size<i.size:=Cw _ hs;have az:j=j/i.size*i.size+j%i.size:=by grind[Cx]
   rw[az,yS _ _ av ak,List.getElem?_replicate,alq ay]at hp;simp only[Av,B9]at hp;rw[An,alq ax,Ao]at hx;have:=Se an hs j (show j<k.toNat*i.size by omega);simp only[cells]at hx;rw[this]at hx;simp only[alu]at hx;rw[A0 (by rw[au];exact ak)]at hp;simp only[Bf,alu]at hp;rw[<-hp,<-hx];exact(H4 _ (by grind)).1
 grind
theorem wm3{pos:String}(t:TypeId)(l m:Operand)(h:ez c nt e I a w L J):fG (x5 (eV P t) (jJ P t) I (zI e l) (zI e m)) I (bT P c ⟨dst,.makeSlice t l m,ty,pos,eK,g⟩ a w L I J):=by
 have hl:=h.eval l;have hm:=h.eval m;unfold x5;split;.rename_i s aj z n k ah hz e1 e2;rw[e1]at hl;rw[e2]at hm;have e1:=yQ hl;have e2:=yQ hm;rintro⟨h0,hle,hb⟩;obtain⟨el,cells,ai,ak,hs,ad,ae⟩:=Sf ah hz h0 hle hb w L;have hlen:(List.replicate n.toNat z).length=n.toNat:=sM;obtain⟨aa,ab,af⟩:=h.mem.qN (s:=s) (cap:=k.toNat) (arr:=cells) (T:=el) hs ad ae om om (by grind);rw[hlen]at aa af ab;refine⟨_,_,_,_,(by grind[execOp,Sem.run_bind,Result.andThen_ok,Sem.run_pure]),aa,ab,Ext.push _ _ h.mem.len _ _,af,n.toNat,s,sM,om,λ_=>?_,ad⟩;rw[<-h.mem.len];simp
 trivial
def x6(el:Option (Nat×Nat))(zs:Option (List V))(I:St)(l m:V):R:=match el,zs,l,m with |some (s,lW),some z,.int .i64 n,.int .i64 k=>.dR (0<=n/\n<=k/\k.toNat*lW<=140737488355328) (.cS I.length s n.toNat 0 n.toNat) (I++[.cv (List.replicate n.toNat z) s])|_,_,_,_=>.fail
theorem Ih{w':World}{L':Nat->Nat}{rows:List (List V)}{s cap:Nat}{a0:Option Addr}(hl:J.length=I.length)(dG:rows.length<=cap)(ha:0<cap->∃b,a0=some ⟨b,0,none⟩):dP w' L' (I++[.cv rows s]) (J++[.slice a0 rows.length cap]) (.cS I.length s rows.length 0 rows.length) (.slice a0 rows.length cap):=by refine⟨a0,cap,rfl,om,λhp=>?_,.inr ⟨rows,sM,om,λ_=>⟨a0,cap,?_,rfl,om,λhp=>?_⟩⟩⟩;all_goals grind
theorem xX1{pos:String}(t:TypeId)(l m:Operand)(h:ez c nt e I a w L J):fG (x6 (eV P t) (jJ P t) I (zI e l) (zI e m)) I (bT P c ⟨dst,.makeSlice t l m,ty,pos,eK,g⟩ a w L I J):=by
 have hl:=h.eval l;have hm:=h.eval m;unfold x6;split;.rename_i s ak z n k ah hz e1 e2;rw[e1]at hl;rw[e2]at hm;have e1:=yQ hl;have e2:=yQ hm;rintro⟨h0,hle,hb⟩;obtain⟨el,cells,aj,al,hs,ai,ad⟩:=Sf ah hz h0 hle hb w L;have hlen:(List.replicate n.toNat z).length=n.toNat:=sM;obtain⟨aa,ae,ab⟩:=h.mem.mL (s:=s) (cap:=k.toNat) (arr:=cells) (T:=el) hs ai (by rw[hlen];exact ad.imp λ_ _=>dy.dJ) om om;have af:=Ih (w':=w.alloc (.cells cells el)) (L':=L) (s:=s) (rows:=List.replicate n.toNat z) (cap:=k.toNat) (a0:=some ⟨w.heap.size,0,none⟩) h.mem.len om sM;rw[hlen]at aa ab af;exact⟨_,_,_,_,(by grind[execOp,Sem.run_bind,Result.andThen_ok,Sem.run_pure]),aa,ae,ab,af⟩
 trivial
theorem wl3(h:Mem c w L I J){id s p:Nat}{rows r2:List (List V)}{ad:Option Addr}{lo n m cap:Nat}{x:Value}(cP:I[id]?=some (.cv rows s))(hx:dP w L I J (.cS id s n lo m) x)(hv:x=.slice ad m cap)(hn:rows.length=n)(ab:eU s r2){news:alY}(ae:bP (dy w L I J) r2.flatten news)(af:∀u∈news,u.oneCell')(hp:p=lo)(hk:r2.length<=m)(ay:lo+m<=n)(ar:0<r2.length):∃a0 w',ad=some a0/\(storeCells a0 news 0).run P w=.ok () w'/\Mem c w' L (I.set id (.cv (rows.take p++r2++rows.drop (p+r2.length)) s)) J/\Le w L w' L/\Ext I J (I.set id (.cv (rows.take p++r2++rows.drop (p+r2.length)) s)) J:=by
 subst hp;obtain⟨az,au,e0,a1,_,hc⟩:=hx;rw[hv]at e0;cases e0;rcases hc with hd|⟨cI,ah,a6,hb⟩;.grind
 .rw[cP]at ah;cases ah;obtain⟨b0,c0,dD,a7,a8,aa⟩:=hb hn.symm;have an:p<c0:=om;obtain⟨k0,rfl,rfl⟩:=aa an;clear hb aa;obtain⟨a2,av,e1,aw,aA,ao,_⟩:=h.dE id _ _ cP dD;cases e1;have aq:(rows.take p++r2++rows.drop (p+r2.length)).length=rows.length:=by grind
  have ai:p*s<=rows.length*s:=Ak _ om;obtain⟨arr,T,fz,hh,hf,ax,aj,hle,ak⟩:=h.gI (off:=p*s) (vs:=r2.flatten) (cI:=rows.take p++r2++rows.drop (p+r2.length)) cP dD om ae ai (λr hr=>by
    rcases Ai.1 hr with hr|hr
    .rcases Ai.1 hr with hr|hr;.grind
     .exact ab r hr
    grind) (NM ao ab om) om om;have al:J.set id (.slice (some ⟨k0,0,none⟩) (rows.take p++r2++rows.drop (p+r2.length)).length c0)=J:=(by grind[yP]);rw[al]at aj ak;have aB:=xU P k0 (p*s) T fz news 0 arr w hh hf om af;grind
def x7(sl:am2)(zs:Option (List V))(I:St)(x:V):R:=match zs,x with |some z,.cS id s n lo m=>(match I[id]?with |some (.cv rows s')=>.dR (sl=some s/\s'=s/\rows.length=n/\lo+m<=n) (.cC []) (I.set id (.cv (rows.take lo++List.replicate m z++rows.drop (lo+m)) s))|_=>.fail)|_,_=>.fail
theorem xW7{pos:String}(t:TypeId)(x:Operand)(h:ez c nt e I a w L J):fG (x7 ((eV P t).map (·.1)) (jJ P t) I (zI e x)) I (bT P c ⟨dst,.call ⟨.builtin .clear,#[x],#[t]⟩,ty,pos,eK,g⟩ a w L I J):=by
 have hx:=h.eval x;unfold x7;split
 .rename_i z id s n lo m hz h1;rw[h1]at hx;split
  .rename_i rows s' cP;rintro⟨a8,rfl,hn,al⟩;obtain⟨aA,an⟩:∃b,eV P t=some (s',b):=by simp_all
   obtain⟨el,i,zz,hu,hi,ao,rfl,rfl,ah,hs,aB⟩:=rD an;unfold jJ at hz;rw[hu]at hz;obtain⟨i',aC,ai,ab,a6,rfl⟩:=KC hz;rw[hi]at ai;cases ai;rw[ao]at ab;cases ab;have aq:=hx;obtain⟨ad,cap,hv,aD,a7,_⟩:=aq;by_cases ar:m=0;.subst ar;have aj:I.set id (.cv (rows.take lo++List.replicate 0 (zz.cells.toList.map jE)++rows.drop (lo+0)) i.size)=I:=(by simp_all[yP]);rw[aj];refine⟨.tuple #[],w,L,J,.inl ?_,h.mem,Le.refl _ _,Ext.refl _ _,[],rfl,tV⟩;cases ad<;>simp[execOp,resolve,invoke,builtin,Builtin.clear_,run_underlying hu,hv]
   .have aa:bP (dy w L I J) (List.replicate m (zz.cells.toList.map jE)).flatten (Builtin.zeroCells zz.cells m).toList:=by
     have au:eU i.size (List.replicate m (zz.cells.toList.map jE)):=λr hr=>by grind
     refine bP.of ?_ λj p x hp hx=>?_;.simp[size_zeroCells]
     .have av:j<m*i.size:=by have:=(A3.1 hp).1;simp_all
      have aw:j/i.size<m:=by simp_all[C9]
      have ak:j%i.size<i.size:=Cw _ hs;have ax:j=j/i.size*i.size+j%i.size:=by grind[Cx]
      rw[ax,yS _ _ au ak,List.getElem?_replicate,alq aw]at hp;simp only[Av,B9]at hp;have:=Se ah hs j av;rw[Ao]at hx;unfold Builtin.zeroCells at hx;rw[ah]at hx this;rw[this]at hx;simp only[alu]at hx;rw[A0 (by simpa[ah]using ak)]at hp;simp only[Bf,alu]at hp;rw[<-hp,<-hx];exact dy.dJ (H4 _ (by grind)).1
    have ay:(List.replicate m (zz.cells.toList.map jE)).length=m:=sM;obtain⟨a0,w',rfl,aE,ae,hle,af⟩:=wl3 (P:=P) h.mem (p:=lo) cP hx hv hn (r2:=List.replicate m (zz.cells.toList.map jE)) (λr hr=>by grind) aa (λu az=>by
      obtain⟨k,hk⟩:=Aq.1 az;have a1:k<(List.replicate m (zz.cells.toList.map jE)).flatten.length:=by rw[aa.length];grind
      obtain⟨q,hq,rq⟩:=aa.get k _ (A0 a1);rw[hk]at hq;cases hq;exact rq.dS) rfl om al om;rw[ay]at ae af;obtain⟨m',rfl⟩:∃m',m=m'+1:=(by simp;omega);refine⟨.tuple #[],w',L,J,.inl ?_,ae,hle,af,[],rfl,tV⟩;simp_all[execOp,resolve,invoke,builtin,Builtin.clear_,run_underlying,zeroValue,typeInfo]
  trivial
 trivial
def x8(es:am2)(len:Nat)(I:St)(parts:List (Nat×V)):R:=match es with |some s=>if tU 0 parts=true/\parts.length=len then .dR ((∀p∈parts,(xT p.2).length=s)/\len*s<=16777216/\0<s) (.cS I.length s len 0 len) (I++[.cv (parts.map λp=>xT p.2) s])else .fail|none=>.fail
theorem yp6{pos:String}(t:TypeId)(len:Nat)(ps:Array (Nat×Operand))(h:ez c nt e I a w L J):fG (x8 ((eV P t).map (·.1)) len I (ps.toList.map λp=>(p.1,zI e p.2))) I (bT P c ⟨dst,.buildSlice t len ps,ty,pos,eK,g⟩ a w L I J):=by
 unfold x8;split
 .rename_i s au;split
  .rename_i af;obtain⟨ho,hlen⟩:=af;rintro⟨hp,av,hs⟩;obtain⟨el,an⟩:∃b,eV P t=some (s,b):=by simp_all
   obtain⟨el,i,z,hu,hi,hz,rfl,_,aw,_,_⟩:=rD an;have ab:=bP.iK h ps.toList;have ah:∀aa,Instr.fill (λk=>some (k*i.size,i.size)) ((Array.range (len*i.size)).map (z.cells[·%z.cells.size]!)) (ps.map λ(k,x)=>(k,a.eval x)).toList=some aa->(Instr.buildSlice t len (ps.map λ(k,x)=>(k,a.eval x))).run P w=.ok (.slice (some ⟨w.heap.size,0,none⟩) len len) (w.alloc (.cells aa el)):=by
    intro aa hf;by_cases h0:len*i.size=0
    .have ax:len=0:=by rcases Nat.mul_eq_zero.1 h0 with h|h;all_goals omega
     simp_all[Array.eq_empty_of_size_eq_zero,Instr.buildSlice,run_underlying,sizeOf,typeInfo,newRow]
    grind[run_buildSlice]
   have ai:(ps.map λ(k,x)=>(k,a.eval x)).toList=ps.toList.map λp=>(p.1,a.eval p.2):=sM;obtain⟨aa,hf,ay,aj⟩:=Sc (s:=i.size) _ _ 0 ((Array.range (len*i.size)).map (z.cells[·%z.cells.size]!)) [] ho hp ab (by grind) sM (by simp[bP]);rw[<-ai]at hf;have hr:=ah aa hf;have ao:((ps.toList.map λp=>(p.1,zI e p.2)).map λp=>xT p.2).length=len:=by grind
   have aq:eU i.size ((ps.toList.map λp=>(p.1,zI e p.2)).map λp=>xT p.2):=λr hr=>by grind
   simp only[Cc]at aj;have ar:aa.size=len*i.size:=by grind
   obtain⟨ad,ak,ae⟩:=h.mem.mL (s:=i.size) (cap:=len) (arr:=aa) (T:=el) hs aq (by grind[Ad]) om om;have al:=Ih (w':=w.alloc (.cells aa el)) (L':=L) (s:=i.size) (rows:=(ps.toList.map λp=>(p.1,zI e p.2)).map λp=>xT p.2) (cap:=len) (a0:=some ⟨w.heap.size,0,none⟩) h.mem.len om sM;rw[ao]at ad ae al;exact⟨_,_,_,_,(by simp_all[execOp]),ad,ak,ae,al⟩
  trivial
 trivial
def BD(ks kd:Option Kd)(I:St)(x:V):R:=match kd,x with |some .bytes,.str s=>if ks=some .str then .st (.cS I.length 1 s.length 0 s.length) (I++[.cv (zU s) 1])else .fail|_,_=>.fail
theorem xW8{pos:String}(t t':TypeId)(x:Operand)(h:ez c nt e I a w L J):fG (BD (j9 P t) (j9 P t') I (zI e x)) I (bT P c ⟨dst,.convert t t' x,ty,pos,eK,g⟩ a w L I J):=by
 have hx:=h.eval x;unfold BD;split
 .rename_i s hk h1;rw[h1]at hx;split
  .rename_i hs;obtain⟨el,hu,he⟩:=NO hk;have hr:=run_bytes_of_string (P:=P) w t t' el ⟨s.toArray⟩ (Gl hs) hu he;have hd:=h.mem.drew;have ah:=grownCap_ge w (ByteArray.mk s.toArray).size 0 el;generalize dG:grownCap w (ByteArray.mk s.toArray).size 0 el=cap at hr ah;have ai:s.length<=cap:=by simpa
   generalize aj:bytesRow ⟨s.toArray⟩ cap=arr at hr;have ak:arr.size=cap:=by grind[bytesRow,AV]
   have hl:(zU s).length=s.length:=by simp[zU]
   have ad:bP (dy w.drew L I J) (zU s).flatten (arr.toList.take ((zU s).length*1)):=by
    have hb:arr.toList.take ((zU s).length*1)=byteCells ⟨s.toArray⟩:=by grind[bytesRow,byteCells]
    rw[hb];exact(Kw s).imp λ_ _=>dy.dJ
   obtain⟨aa,ae,ab⟩:=hd.1.tP (s:=1) (cap:=cap) (arr:=arr) (T:=el) (fz:=(arr.size,arr.size+1)) ⟨λo ho q=>om,.inl rfl⟩ om (RY s) ad om om;have af:=Ih (w':=w.drew.alloc (.cells arr el (arr.size,arr.size+1))) (L':=L) (s:=1) (rows:=zU s) (cap:=cap) (a0:=some ⟨w.drew.heap.size,0,none⟩) h.mem.len om sM;rw[hl]at aa ab af;refine⟨_,_,_,_,.inl ?_,aa,hd.2.trans ae,ab,af⟩;simp only[execOp,lU hx,Sem.run_bind,hr,Result.andThen_ok,Sem.run_pure];rfl
  trivial
 trivial
end
end Go.Vx
