/-
  internal/reflectlite's Swapper over trees: the function literal that it hands back changes two rows of a list of one's own (the kit's law of it, lifted).
  No condition: a library text; nothing of the program is named.
-/
import Derived.Test.YtefbicjgbaaieaaGreatLAF
import Derived.Shelf.SlSortCmp.NoneTotal
import Derived.Lib.ReflectliteSwap
import Derived.Lib.ReflectliteSlice
set_option maxHeartbeats 8000000
namespace Go.Vx
open Go Go.Shelf Go.Sort Go.Proofs
structure SE(s:Nat)where
 n:Int
 t:aij
 rest:ail
 len:rest.length+2=s
 one:∀v∈rest,v.oneCell'=true
def SE.enc{s:Nat}(x:SE s):ail:=.int .i64 x.n::.string ⟨x.t.toArray⟩::x.rest
def SE.key{s:Nat}(x:SE s):Int×aij:=(x.n,x.t)
@[instance_reducible]def Zh{s:Nat}(h:2<=s):Inhabited (SE s):=⟨⟨0,[],List.replicate (s-2) (.int .i64 0),by simp;omega,λv hv=>by rw[List.eq_of_mem_replicate hv];rfl⟩⟩
theorem SE.mJ{s:Nat}(x:SE s):x.enc.length=s:=by simp[SE.enc,<-x.len]
theorem SE.wm{s:Nat}(x:SE s):∀v∈x.enc,v.oneCell'=true:=λv hv=>by
 simp only[SE.enc,Ag]at hv;rcases hv with rfl|rfl|hv;.rfl
 .rfl
 .exact x.one v hv
theorem bM.DU{J I:Type}{R:J->I->Prop}{ds ab:List I}(hp:ds.Perm ab):∀{xs:List J},bM R xs ds->∃aa,xs.Perm aa/\bM R aa ab:=by induction hp with
 |nil=>intro xs h;cases xs with |nil=>exact⟨[],.refl _,tV⟩|cons _ _=>exact h.elim
 |cons d _ ih=>intro xs h;cases xs with |nil=>exact h.elim|cons x xs=>obtain⟨aa,h1,h2⟩:=ih h.2;exact⟨x::aa,h1.cons x,h.1,h2⟩
 |swap a b l=>intro xs h;match xs,h with |x::y::xs,h=>exact⟨y::x::xs,.swap y x xs,h.2.1,h.1,h.2.2⟩|[_],h=>exact h.2.elim|[],h=>exact h.elim
 |trans _ _ ad ae=>intro xs h;obtain⟨ag,h1,h2⟩:=ad h;obtain⟨af,h3,h4⟩:=ae h2;exact⟨af,h1.trans h3,h4⟩
theorem bM.split{J I:Type}{R:J->I->Prop}:∀{l l':List J}{m:List I},bM R (l++l') m->∃m1 m2,m=m1++m2/\bM R l m1/\bM R l' m2
 |[],l',m,h=>⟨[],m,rfl,tV,h⟩|a::l,l',[],h=>h.elim|a::l,l',b::m,h=>by obtain⟨m1,m2,rfl,h1,h2⟩:=bM.split h.2;exact⟨b::m1,m2,rfl,⟨h.1,h1⟩,h2⟩
section
variable{P:Program}{c:Ctx}{w:World}{L:Nat->Nat}{U:St}{I:ail}
theorem Rl{s:Nat}{X:Type}{f:X->List V}{kx:X->Int×aij}(hf:∀x,∃rest,f x=.int .i64 (kx x).1::.str (kx x).2::rest/\rest.length+2=s):∀(xs:List X)(aa:ail),bM (cU w L U I) ((xs.map f).flatten) aa->∃ds:List (SE s),ds.flatMap SE.enc=aa/\bM (λx d=>bM (cU w L U I) (f x) d.enc/\d.key=kx x) xs ds
 |[],aa,h=>by cases aa with |nil=>exact⟨[],rfl,tV⟩|cons _ _=>exact h.elim
 |x::xs,aa,h=>by rw[Ad,Db]at h;obtain⟨m1,m2,rfl,h1,h2⟩:=bM.split h;obtain⟨ds,h3,h4⟩:=Rl hf xs m2 h2;obtain⟨rest,hr,hl⟩:=hf x;have ab:=h1;rw[hr]at h1;match m1,h1 with
  |v1::v2::vr,⟨a1,a2,a3⟩=>
   have e1:v1=.int .i64 (kx x).1:=yS (dj.dv a1);have e2:v2=.string ⟨(kx x).2.toArray⟩:=lF (dj.dv a2);subst e1 e2;have hlen:=a3.length;refine⟨⟨(kx x).1,(kx x).2,vr,om,λv hv=>?_⟩::ds,?_,⟨?_,rfl⟩,h4⟩;.obtain⟨q,_,hq⟩:=a3.ny hv;exact hq.dF
   .rw[Bu,h3];rfl
   .exact ab|[],h1=>exact h1.elim|[_],⟨_,h1⟩=>exact h1.elim
theorem Zi{W w':World}{L0 L':Nat->Nat}{U':St}{I':ail}(h:Mem (entry W L0 [] []) w' L' U' I'):∃q aa,w'=Sort.grow (W.drewN q) aa:=by
 refine⟨w'.drawn-W.drawn,w'.heap.extract W.heap.size w'.heap.size,?_⟩;have h1:w'.heap=W.heap++w'.heap.extract W.heap.size w'.heap.size:=by
  have hs:W.heap.size<=w'.heap.size:=h.size;apply Array.ext;.simp;omega
  .intro i hi ab;by_cases q:i<W.heap.size;.have:=(h.same i q (by simp[entry,uz])).1;have e1:w'.heap[i]?=some w'.heap[i]:=Az hi;have e2:W.heap[i]?=some W.heap[i]:=Az q;rw[Array.getElem_append_left q];have this:w'.heap[i]?=W.heap[i]?:=this;rw[e1,e2]at this;exact ai6 this
   .rw[Array.getElem_append_right om];simp only[Array.getElem_extract];congr 1;omega
 have h2:w'.os=W.os:=h.os;have h3:w'.tape=W.tape:=h.tape;have h4:w'.output=W.output:=h.output;have h5:W.drawn<=w'.drawn:=h.drawn;obtain⟨hp,tp,dr,os,out⟩:=w';simp only at h1 h2 h3 h4 h5;unfold Sort.grow World.drewN;simp only;rw[<-h1,<-h2,<-h3,<-h4,show W.drawn+(dr-W.drawn)=dr by omega]
theorem Mem.ahead(h:Mem c w L U I)(n:Nat):Mem c (Sort.ahead w n) L U I/\Le w L (Sort.ahead w n) L:=by have hle:Le w L (Sort.ahead w n) L:=⟨λ_=>A6 _,λ_ _ _=>rfl⟩;refine⟨⟨h.len,λi o x hi hx=>(h.cW i o x hi hx).step hle (Ext.refl _ _) λb hb=>⟨rfl,rfl⟩,h.apart,h.fO,h.same,h.le.trans hle,h.size,h.os,h.tape,h.output,Ao h.drawn (Nat.le_add_right _ _),h.lim,h.ext,h.jl⟩,hle⟩
theorem Mem.grow(h:Mem c w L U I)(os:Array Go.Obj):Mem c (Sort.grow w os) L U I/\Le w L (Sort.grow w os) L:=by
 have hb:∀b,b<w.heap.size->(Sort.grow w os).heap[b]?=w.heap[b]?:=λb hb=>by show(w.heap++os)[b]?=_;rw[Dl hb]
 have hle:Le w L (Sort.grow w os) L:=by
  refine⟨λ_=>A6 _,λb o ho=>?_⟩;have:b<w.heap.size:=by
   rcases Ck b w.heap.size with q|q;.exact q
   .rw[h.lim b q]at ho;omega
  exact BQ (hb b this) o
 refine⟨⟨h.len,λi o x hi hx=>(h.cW i o x hi hx).step hle (Ext.refl _ _) λb ab=>⟨hb b ((h.cW i o x hi hx).eH ab),rfl⟩,h.apart,h.fO,λb aa hx=>?_,h.le.trans hle,?_,h.os,h.tape,h.output,h.drawn,λb aa=>?_,h.ext,h.jl⟩,hle⟩;.have:=h.same b aa hx;exact⟨(hb b (Dh aa h.size)).trans this.1,this.2⟩
 .have:(Sort.grow w os).heap.size=w.heap.size+os.size:=by show(w.heap++os).size=_;simp
  rw[this];exact Ao h.size (Nat.le_add_right _ _)
 .have:(Sort.grow w os).heap.size=w.heap.size+os.size:=by show(w.heap++os).size=_;simp
  rw[this]at aa;exact h.lim b om
theorem Zj{b:Nat}{arr:ain}{T:TypeId}{fz:Nat×Nat}(h:w.heap[b]?=some (.cells arr T fz))(f:ain->ain):mapBlock w b f=yU w b (.cells (f arr) T fz):=by
 have hb:b<w.heap.size:=(Cl.1 h).1;have hx:w.heap[b]'hb=.cells arr T fz:=by rw[Az hb]at h;exact ai6 h
 unfold mapBlock yU;congr 1;apply Array.ext;.simp
 .intro i h1 h2;rw[Array.getElem_modify,Array.getElem_setIfInBounds]
  .by_cases q:b=i;.subst q;rw[ahP rfl,ahP rfl,hx];rfl
   .rw[ahO q,ahO q]
theorem Zk(F arr:ain)(h:F.size<=arr.size):Go.Sort.putCells id 0 F arr=xU arr 0 F.toList:=by
 unfold Go.Sort.putCells;apply Array.ext;.simp[xV]
 .intro i h1 h2;have hi:i<arr.size:=sU h1;have hs:=vw F.toList arr 0 i (sU h);rw[Az h2]at hs;by_cases q:i<F.size;.rw[ahP (sU q)]at hs;simp only[Nat.sub_zero,Am,Az q,ahT]at hs;rw[hs,Array.getElem_mapIdx];simp[q]
  .rw[ahO (sU q),Az hi,ahT]at hs;rw[hs,Array.getElem_mapIdx];simp[q]
theorem Rm{s:Nat}(hs:0<s)[Inhabited (SE s)](d:Array (SE s)):(Go.Sort.flatK SE.enc s d).toList=d.toList.flatMap SE.enc:=by
 have hu:∀r∈d.toList.map SE.enc,r.length=s:=λr hr=>by obtain⟨x,_,rfl⟩:=Aa.1 hr;exact x.mJ
 have aa:d.toList.flatMap SE.enc=(d.toList.map SE.enc).flatten:=List.flatMap_def ..;have ab:(d.toList.map SE.enc).flatten.length=d.size*s:=by rw[yD hu];simp
 rw[aa];apply Bs;intro t;rw[Am];by_cases ht:t<d.size*s
 .have h1:t<(Go.Sort.flatK SE.enc s d).size:=by rw[size_flatK];exact ht
  have h2:=get_flatK SE.enc s d t ht;rw[aic _ t h1]at h2;rw[Az h1,h2];have hq:t/s<d.size:=Nat.div_lt_of_lt_mul (by rw[Dp];exact ht);have hr:t%s<s:=Ci _ hs;have h3:=yV (rows:=d.toList.map SE.enc) (t/s) (t%s) hu hr;rw[show t/s*s+t%s=t by rw[Dp];exact Cw t s]at h3;rw[h3,B1,Am,Az hq,aic d _ hq];simp only[Bi,An];have hl:t%s<(SE.enc d[t/s]).length:=by rw[SE.mJ];exact hr
  rw[A0 hl,aic (SE.enc d[t/s]) (t%s) hl]
 .rw[Array.getElem?_eq_none (by rw[size_flatK];omega),Cq om]
theorem Rn{s:Nat}{X:Type}{f:X->List V}{p:X->SE s->Prop}:∀{xs:List X}{ds:List (SE s)},bM (λx d=>bM (cU w L U I) (f x) d.enc/\p x d) xs ds->bM (cU w L U I) (xs.map f).flatten (ds.flatMap SE.enc)
 |[],[],_=>trivial|x::xs,d::ds,h=>by rw[Ad,Db,Bu];exact bM.append h.1.1 (Rn h.2)|[],_::_,h=>h.elim|_::_,[],h=>h.elim
theorem Zl{ρ:Ren}(La:SlLaysF0.n6 P ρ){s:Nat}(hs:2<=s)(aE:∀w,(isAgg (ρ.t 24)).run P w=.ok true w)(zE:∀w,(Go.sizeOf (ρ.t 24)).run P w=.ok s w){gf:Nat}(Zm:wQ P gf){C:Int×aij->Int×aij->Int}(hO:SWO λa b=>decide (C a b<0))(hg:∀x y:Int×aij,Pure P gf [.agg (.int .i64 x.1::.str x.2::List.replicate (s-2) .u),.agg (.int .i64 y.1::.str y.2::List.replicate (s-2) .u)] (.int .i64 (C x y))){X:Type}{f:X->List V}{kx:X->Int×aij}(hf:∀x,∃rest,f x=.int .i64 (kx x).1::.str (kx x).2::rest/\rest.length+2=s){id:Nat}{xs:List X}(hm:Mem c w L U I)(cD:U[id]?=some (.cj (xs.map f) s))(hlen:xs.length<4611686018427387904){v:Value}(hv:dj w L U I (.cL id s xs.length 0 xs.length) v):Calls P (ρ.f 6) #[v,.func (.func gf) #[] #[]] w λe w'=>e=.returned (.tuple #[])/\∃qW,xs.Perm qW/\qW.Pairwise (λa b=>¬C (kx b) (kx a)<0)/\Mem c w' L (U.set id (.cj (qW.map f) s)) I/\Le w L w' L/\Ext U I (U.set id (.cj (qW.map f) s)) I:=by
 haveI:=Zh hs;obtain⟨a,cap,rfl,⟨hc1,_⟩,_,hv⟩:=hv;rcases hv with hd|⟨rows,Hq,hn,hb⟩;.rw[cD]at hd;cases hd
 rw[cD]at Hq;obtain rfl:xs.map f=rows:=by cases Hq;rfl
 obtain⟨bb,c0,dd,db,_,hblk⟩:=hb sm;have Hr:U.set id (.cj (xs.map f) s)=U:=yQ U id _ cD;by_cases Zn:xs.length=0;.obtain rfl:xs=[]:=B4 Zn;refine(AnyF.slices_SortFunc_none (P:=P) (ρ:=ρ) La a cap (.func (.func gf) #[] #[]) w).mono ?_;rintro e w'⟨rfl,rfl⟩;exact⟨rfl,[],.refl _,List.Pairwise.nil,by rw[Hr];exact hm,Le.refl _ _,by rw[Hr];exact Ext.refl _ _⟩
 have Hs:0<c0:=om;obtain⟨k,rfl,rfl⟩:=hblk Hs;obtain⟨a',Zo,e,AS,hs0,hu,cK⟩:=hm.cW id _ _ cD dd;simp only[Bq]at e;cases e;obtain⟨b',arr,T,fz,e,hh,Zp,GR,hL,tq⟩:=cK Hs;cases e;have Zq:k<w.heap.size:=(Cl.1 hh).1;simp only[Bq]at AS tq;obtain⟨ds,Zr,Ht⟩:=Rl hf xs _ tq;have Zs:=Ht.length;have Zt:xs.length*s<=arr.size:=Ao (Ae s AS) GR;have MX:=Rm om ds.toArray;have mK:ds.toArray.size=xs.length:=by simp[Zs]
 have hH:HoldsK SE.enc s w k 0 ds.toArray:=by
  intro j hj;rw[size_flatK,mK]at hj;have h1:(Go.Sort.flatK SE.enc s ds.toArray).toList[j]?=arr[j]?:=by rw[MX,Zr,Aw,ahP hj,Am]
  have MY:j<arr.size:=om;have Ro:j<(Go.Sort.flatK SE.enc s ds.toArray).size:=by rw[size_flatK,mK];exact hj
  rw[Am,Az Ro,Az MY,ahT]at h1;refine⟨?_,?_⟩;.rw[aic _ j Ro,h1];simp[World.cell?,hh,MY]
  .have:=Zp.1 j MY;simp[World.frozen?,hh];omega
 obtain⟨fn,LK,sZ,s7⟩:=IS Zm;have eg:∀args w,(callFunc gf args).run P w=.ok (.enter gf args) w:=λargs w=>by
  have LL:¬fn.body=none:=by intro q;simp[q]at s7
  have GQ:¬fn.name="runtime.NumGoroutine":=sU sZ;simp[callFunc,LK,GQ,LL]
 let cf:SE s->SE s->Int:=λx y=>C x.key y.key;have Zu:SWO (ltOf cf):=⟨λx=>hO.irrefl _,λx y z=>hO.trans _ _ _,λx y z=>hO.ntrans _ _ _⟩;have Rp:∀(W:World)(x:SE s),dj W L [] [] (.agg (.int .i64 x.key.1::.str x.key.2::List.replicate (s-2) .u)) (.agg x.enc.toArray):=λW x=>by
  refine⟨x.enc,rfl,cU.de (.int _ _),cU.de (.str _),?_⟩;have hl:x.rest.length=s-2:=by have:=x.len;omega
  rw[<-hl];have ho:=x.one;generalize x.rest=r at ho;induction r with |nil=>trivial|cons v r ih=>exact⟨ho v sm,ih λu hu=>ho u (by simp[hu])⟩
 have MZ:CmpLays P gf #[] SE.enc s cf k 0 ds.toArray.size w:=by
  intro m os dk _ x y;generalize hW:sortWorldK SE.enc s w k 0 m dk os=W;have Hu:∀b,b≠k->b<w.heap.size->W.heap[b]?=w.heap[b]?:=λb hb Zv=>by
   rw[<-hW];show((putRowK SE.enc s (Sort.ahead w m) k 0 dk).heap++os)[b]?=_;have DV:(putRowK SE.enc s (Sort.ahead w m) k 0 dk).heap.size=w.heap.size:=by unfold putRowK;rw[Go.Sort.size_putRow];rfl
   rw[Dl (by rw[DV];exact Zv)];show(w.heap.modify k _)[b]?=_;rw[Array.getElem?_modify,ahO (λq=>hb q.symm)]
  have M0:w.heap.size<=W.heap.size:=by
   rw[<-hW];show _<=((putRowK SE.enc s (Sort.ahead w m) k 0 dk).heap++os).size;have DV:(putRowK SE.enc s (Sort.ahead w m) k 0 dk).heap.size=w.heap.size:=by unfold putRowK;rw[Go.Sort.size_putRow];rfl
   rw[Array.size_append,DV];omega
  have M1:Le w L W L:=by
   refine⟨λ_=>A6 _,λb o ho=>?_⟩;have GQ:b≠k:=λq=>by subst q;rw[hL]at ho;omega
   have:b<w.heap.size:=by
    rcases Ck b w.heap.size with q|q;.exact q
    .rw[hm.lim b q]at ho;omega
   exact BQ (Hu b GQ this) o
  have Zw:Mem (entry W L [] []) W L [] []:=⟨rfl,λi o x ho _=>by simp at ho,λi j o o' x x' b _ ho _ _ _ _=>by simp at ho,λi o x b ho _ _=>by simp at ho,λb _ _=>⟨rfl,rfl⟩,Le.refl _ _,A6 _,rfl,rfl,rfl,A6 _,λb hb=>hm.lim b (Ao M0 hb),Ext.refl _ _,(hm.jl.mono hm.le).mono M1⟩;have nB:=hg x.key y.key W L [] [.agg x.enc.toArray,.agg y.enc.toArray] Zw ⟨Rp W x,Rp W y,tV⟩;have e1:(#[.agg x.enc.toArray,.agg y.enc.toArray]++#[]:ain)=[Value.agg x.enc.toArray,Value.agg y.enc.toArray].toArray:=sm;rw[e1];refine nB.mono ?_;rintro e w'⟨v,r,L',U',I',rfl,⟨rfl,rfl⟩,_,Zx,CD⟩;exact⟨by rw[yS CD],Zi Zx⟩
 rw[Cz,<-mK];refine(AnyQ.slices_SortFunc (P:=P) (ρ:=ρ) La s aE zE SE.enc (λx=>x.mJ) (λx=>x.wm) cf Zu gf #[] k 0 cap ds.toArray w eg MZ hH Zq (by rw[mK];exact hlen)).mono ?_;rintro e w'⟨rfl,d',nn,os,⟨tE,_,JR⟩,wq,rfl⟩;have Zy:d'.toList.length=xs.length:=by rw[Co,tE,mK]
 have JR:d'.toList.Perm ds:=by
  have e1:d'.extract 0 ds.toArray.size=d':=by rw[<-tE];simp
  have e2:ds.toArray.extract 0 ds.toArray.size=ds.toArray:=sm;rw[e1,e2]at JR;exact JR
 obtain⟨qW,Rq,AT⟩:=bM.DU JR.symm Ht;have M4:=Rq.length_eq;refine⟨rfl,qW,Rq,?_,?_⟩
 .rw[List.pairwise_iff_getElem];intro i j hi hj Zz;have Rr:i<d'.size:=by rw[tE,mK];omega
  have Rt:j<d'.size:=by rw[tE,mK];omega
  have h1:=wq i j (A3 _) Zz (by rw[mK];omega);rw[aic d' i Rr,aic d' j Rt]at h1;have key:∀(q:Nat)(hq:q<qW.length)(Ru:q<d'.size),d'[q].key=kx qW[q]:=λq hq Ru=>by obtain⟨b,hb,r⟩:=AT.get q _ (A0 hq);rw[Am,Az Ru,ahT]at hb;rw[hb];exact r.2
  have h2:decide (C d'[j].key d'[i].key<0)=false:=h1;rw[key i hi Rr,key j hj Rt]at h2;exact ahW h2
 .obtain⟨ZA,Hv⟩:=hm.ahead nn;have Rv:eM s (qW.map f):=λr hr=>by obtain⟨x,_,rfl⟩:=Aa.1 hr;obtain⟨rest,h1,h2⟩:=hf x;rw[h1];simp;omega
  have M5:=yD hu;have M6:=yD Rv;have ZB:bM (cU (Sort.ahead w nn) L U I) (qW.map f).flatten (d'.toList.flatMap SE.enc):=(Rn AT).imp λ_ _=>cU.mono Hv (Ext.refl _ _);have M7:(qW.map f).flatten=putCells (xs.map f).flatten 0 (qW.map f).flatten:=by unfold putCells;rw[Df,C0,Bj (by rw[M5,Ab,M6];simp[M4]),Ay]
  obtain⟨M8,T2,ZC,h1,_,h3,h4,h5,h6⟩:=ZA.gD (off:=0) cD dd Hs ZB (A3 _) Rv M7 (by simp[M4]) (by simp only[Bq];omega);have Rw:w.heap[k]?=some (.cells M8 T2 ZC):=h1;rw[hh]at Rw;cases Rw;have M9:I.set id (.slice (some ⟨k,0,none⟩) (qW.map f).length c0)=I:=yQ I id _ (by rw[dd];simp[M4]);rw[M9]at h4 h6;have ZD:=Rm om d';have Hw:putRowK SE.enc s (Sort.ahead w nn) k 0 d'=yU (Sort.ahead w nn) k (.cells (xU arr 0 (d'.toList.flatMap SE.enc)) T fz):=by unfold putRowK Go.Sort.putRow;rw[Zj (w:=Sort.ahead w nn) hh,Zk _ _ (by rw[size_flatK,tE,mK];exact Zt),ZD]
  obtain⟨h7,h8⟩:=h4.grow os;unfold sortWorldK;rw[Hw];exact⟨h7,Hv.trans (h5.trans h8),h6⟩
theorem Rx{ρ:Ren}(La:SlLaysF0.n6 P ρ){F:Nat}(hF:ρ.f 6=F)(ae:wQ P F){s:Nat}(hs:2<=s)(aE:∀w,(isAgg (ρ.t 24)).run P w=.ok true w)(zE:∀w,(Go.sizeOf (ρ.t 24)).run P w=.ok s w){gf:Nat}(af:wQ P gf){C:Int×aij->Int×aij->Int}(hO:SWO λa b=>decide (C a b<0))(hg:∀x y:Int×aij,Pure P gf [.agg (.int .i64 x.1::.str x.2::List.replicate (s-2) .u),.agg (.int .i64 y.1::.str y.2::List.replicate (s-2) .u)] (.int .i64 (C x y))){X:Type}{f:X->List V}{kx:X->Int×aij}(hf:∀x,∃rest,f x=.int .i64 (kx x).1::.str (kx x).2::rest/\rest.length+2=s){id:Nat}(xs:List X)(cD:U[id]?=some (.cj (xs.map f) s))(hlen:xs.length<4611686018427387904){K:V->St->Prop}(hk:∀aa,xs.Perm aa->aa.Pairwise (λa b=>¬C (kx b) (kx a)<0)->K (.cm []) (U.set id (.cj (aa.map f) s))):jE P c (.fn F []) [.cL id s xs.length 0 xs.length,.fn gf []] U K fx:=by refine⟨F,[],rfl,.inl ⟨IS ae,λw L I ab hm ha=>?_⟩⟩;match ab,ha with |[v1,v2],⟨h1,h2,_⟩=>obtain⟨ys,rfl,hy⟩:=h2;cases ys with |cons _ _=>exact hy.elim|nil=>have:=Zl (c:=c) La hs aE zE af hO hg hf hm cD hlen h1;rw[hF]at this;refine this.mono ?_;rintro e w'⟨rfl,aa,hp,ag,ah,hle,ad⟩;exact⟨.tuple #[],.cm [],L,_,I,rfl,hk aa hp ag,ah,hle,ad,[],rfl,tV⟩
end
end Go.Vx
namespace Go.Vx
open Go Go.Extern Go.Extern.Rtype Go.Lib Go.RowKit
section
variable{P:Program}{c:Ctx}{w:World}{L:Nat->Nat}{U:St}{I:ail}
variable{F:FuncId}{e:TypeId}{K:V->St->Prop}{n:Nat}{k:Nat}{ie:TypeInfo}{i:TypeInfo}{t:TypeId}{m:Nat}
theorem ZE{J:Type}{s:Nat}{rows:List (List J)}(hu:∀r∈rows,r.length=s)(hk:k<rows.length):(rows.flatten.drop (k*s)).take s=rows[k]:=by
 have hr:=hu _ (A7 hk);have hlen:=yD hu;have aa:(k+1)*s<=rows.length*s:=Ae _ hk;rw[B0,D5]at aa;refine Bs λj=>?_;by_cases q:j<s;.rw[List.getElem?_take_of_lt q,C7,yV k j hu q,A0 hk];rfl
 grind
theorem Ry{rows:List (List V)}{s:Nat}{arr:ain}(hu:∀r∈rows,r.length=s)(ha:bM (cU w L U I) rows.flatten (arr.toList.take (rows.length*s)))(hk:k<rows.length):bM (cU w L U I) (rows[k]) ((arr.toList.drop (k*s)).take s):=by have aa:(k+1)*s<=rows.length*s:=Ae _ hk;rw[B0,D5]at aa;have h:=(bM.drop (k*s) ha).take s;grind[ZE,List.drop_take]
theorem Rz{vs:List V}{xs:ail}(h:bM (cU w L U I) vs xs):∀x∈xs,x.oneCell'=true:=by
 intro x hx;obtain⟨k,hk⟩:=Av.1 hx;have aa:k<vs.length:=by rw[h.length];grind
 obtain⟨z,hz,r⟩:=h.get k _ (A0 aa);rw[hk]at hz;cases hz;exact r.dF
theorem ZF{gS:Bool}(hF:∀args w,(callFunc F args).run P w=((ReflectliteSwapper.swap gS args).run P w).andThen λv w'=>.ok (.value v) w')(ai:P.info? e=some ie)(ag:∀w,(isAgg e).run P w=.ok true w){id i j:Nat}{rows:List (List V)}(cD:U[id]?=some (.cj rows ie.size))(hi:i<rows.length)(hj:j<rows.length)(hk:K (.cm []) (U.set id (.cj ((rows.set i (rows[j]'hj)).set j (rows[i]'hi)) ie.size))):jE P c (.fn F [.cL id ie.size rows.length 0 rows.length,.raw (typeHandle P e)]) [.int .i64 i,.int .i64 j] U K fx:=by refine⟨F,_,rfl,.inr λw L I al hm ha=>?_⟩;match al,ha with
 |[v1,v2,v3,v4],⟨h1,h2,h3,h4,_⟩=>
  have e1:v1=.int .i64 i:=by cases h1;rfl
  have e2:v2=.int .i64 j:=by cases h2;rfl
  have e4:v4=typeHandle P e:=by cases h4;rfl
  subst e1;subst e2;subst e4;obtain⟨a,cap,rfl,⟨aP,_⟩,_,hd|⟨cx,an,_,hb⟩⟩:=h3;.grind
  rw[cD]at an;cases an;obtain⟨b,c0,dd,aQ,_,hblk⟩:=hb rfl;obtain⟨k,rfl,ao⟩:=hblk om;rw[Cz]at ao;subst ao;obtain⟨a',aG,ex,db,hs,hu,cK⟩:=hm.cW id _ _ cD dd;cases ex;obtain⟨b',arr,T,fz,eb,hh,hf,aR,hL,ah⟩:=cK om;cases eb;have hX:=Ry hu ah hi;have hY:=Ry hu ah hj;obtain⟨X,aw⟩:=eX ((arr.toList.drop (i*ie.size)).take ie.size);obtain⟨Y,ax⟩:=eX ((arr.toList.drop (j*ie.size)).take ie.size);rw[aw]at hX;rw[ax]at hY;have lX:X.length=ie.size:=by rw[<-hX.length];grind
  have lY:Y.length=ie.size:=by rw[<-hY.length];grind
  have oX:=Rz hX;have oY:=Rz hY;have ay:(i+1)*ie.size<=rows.length*ie.size:=Ae _ hi;have az:(j+1)*ie.size<=rows.length*ie.size:=Ae _ hj;have aS:rows.length*ie.size<=c0*ie.size:=Ae _ db;rw[B0,D5]at ay az;have cX:∀q v,X[q]?=some v->w.cell? ⟨k,i*ie.size+q,none⟩=some v:=(by grind[World.cell?]);have cY:∀q v,Y[q]?=some v->w.cell? ⟨k,j*ie.size+q,none⟩=some v:=(by grind[World.cell?]);have l1:=rl_loadVar_cells (P:=P) e ie ai ag k (i*ie.size) X lX w cX;have l2:=rl_loadVar_cells (P:=P) e ie ai ag k (j*ie.size) Y lY w cY;have ae:∀n:Nat,n=rows.length->I.set id (.slice (some ⟨k,0,none⟩) n c0)=I:=(by grind[yQ]);have aH:∀(q:Nat)(hq:q<rows.length)(r:List V),r.length=ie.size->(rows.set q r).flatten=putCells rows.flatten (q*ie.size) r:=λq hq r hr=>by
   have h5:=IH (s:=ie.size) (vs:=r) (rows:=rows) q 0 hu hq om;have e5:putCells (rows.getD q []) 0 r=r:=by simp_all[putCells]
   grind
  obtain⟨aI,T1,aT,aq,a1,aJ,ad,af,aa⟩:=hm.gD (cx:=rows.set i (rows[j]'hj)) (off:=i*ie.size) cD dd om hY om (λr hr=>by grind) (by grind) sm (by grind);rw[ae _ sm]at ad aa;rw[hh]at aq;cases aq;have st1:=wO P k (i*ie.size) T fz Y 0 arr w hh a1 om oY;rw[D6]at st1;obtain⟨w1,a6⟩:=eX (yU w k (.cells (xU arr (i*ie.size) Y) T fz));obtain⟨U1,a7⟩:=eX (U.set id (.cj (rows.set i (rows[j]'hj)) ie.size));rw[a6]at ad af st1;rw[a7]at ad aa;have aK:id<U.length:=(by grind);have ar:U1[id]?=some (.cj (rows.set i (rows[j]'hj)) ie.size):=by grind
  have a8:∀r∈rows.set i (rows[j]'hj),r.length=ie.size:=(by grind);have aj:((rows.set i (rows[j]'hj)).set j (rows[i]'hi)).flatten=putCells (rows.set i (rows[j]'hj)).flatten (j*ie.size) (rows[i]'hi):=by
   have hr:=hu _ (A7 hi);have h5:=IH (s:=ie.size) (vs:=rows[i]'hi) (rows:=rows.set i (rows[j]'hj)) j 0 a8 (by grind) om;have e5:putCells ((rows.set i (rows[j]'hj)).getD j []) 0 (rows[i]'hi)=rows[i]'hi:=by simp_all[putCells]
   grind
  have aA:bM (cU w1 L U1 I) (rows[i]'hi) X:=hX.imp λ_ _ r=>r.mono af aa;have aB:∀n:Nat,n=rows.length->I.set id (.slice (some ⟨k,0,none⟩) n c0)=I:=ae;obtain⟨au,T2,aC,aD,aE,aL,ak,av,ab⟩:=ad.gD (cx:=(rows.set i (rows[j]'hj)).set j (rows[i]'hi)) (off:=j*ie.size) (n:=rows.length) ar dd om aA (by grind) (λr hr=>by grind) aj sm (by grind);rw[ae _ sm]at ak ab;have st2:=wO P k (j*ie.size) T2 aC X 0 au w1 aD aE om oX;rw[D6]at st2;have aF:U1.set id (.cj ((rows.set i (rows[j]'hj)).set j (rows[i]'hi)) ie.size)=U.set id (.cj ((rows.set i (rows[j]'hj)).set j (rows[i]'hi)) ie.size):=by grind[List.set_set]
  rw[aF]at ak ab;refine⟨.tuple #[],.cm [],_,L,_,I,?_,hk,ak,af.trans av,aa.trans ab,⟨[],rfl,tV⟩⟩;have i0:¬((i:Int)<0):=om;have i1:¬((i:Int)≥(rows.length:Int)):=om;have j0:¬((j:Int)<0):=om;have j1:¬((j:Int)≥(rows.length:Int)):=om;rw[hF];show((ReflectliteSwapper.swap gS #[.int .i64 i,.int .i64 j,.slice (some ⟨k,0,none⟩) rows.length cap,typeHandle P e]).run P w).andThen _=_;rw[rl_swap];cases gS<;>simp[i0,i1,j0,j1,ofHandle,handleType,typeHandle,ReflectliteSwapper.exchange,sizeOf,rl_info e ie ai,Addr.add_lit,l1,l2,storeVar,Value.cells,lX,lY,st1,st2,Result.andThen]
theorem ZG{gS:Bool}(hF:∀args w,(callFunc F args).run P w=((ReflectliteSwapper.swap gS args).run P w).andThen λv w'=>.ok (.value v) w')(ab:P.info? e=some ie)(aa:∀w,(isAgg e).run P w=.ok true w){id i j s:Nat}{rows R:List (List V)}(hs:ie.size=s)(hn:rows.length=n)(cD:U[id]?=some (.cj rows s))(hi:i<n)(hj:j<n)(hR:R=(rows.set i (rows.getD j [])).set j (rows.getD i []))(hk:K (.cm []) (U.set id (.cj R s))):jE P c (.fn F [.cL id s n 0 n,.raw (typeHandle P e)]) [.int .i64 i,.int .i64 j] U K fx:=by subst hs;subst hn;refine ZF hF ab aa cD hi hj ?_;grind
theorem ZH(hF:∀args w,(callFunc F args).run P w=((ReflectliteValue.unpack (args.getD 0 (.tuple #[]))).run P w).andThen λv w'=>.ok (.value v) w')(hi:P.info? t=some i)(hd:i.desc=.slice e){id s:Nat}(hk:K (.agg [.raw (typeHandle P t),.ptr U.length 0,.int .u64 151]) (U++[.box [.cL id s n 0 m]])):jE P c (.fn F []) [.gW t [.cL id s n 0 m]] U K fx:=by refine⟨F,[],rfl,.inr λw L I aa hm ha=>?_⟩;match aa,ha with
 |[v1],⟨h1,_⟩=>
  obtain⟨y,rfl,hy,_⟩:=h1;have ab:gC w L U I (.cL id s n 0 m) y:=hy;obtain⟨a,cap,rfl,_⟩:=hy;obtain⟨h2,h3⟩:=hm.box [.cL id s n 0 m] #[.slice a m cap] t (by trivial);refine⟨_,_,_,L,_,_,?_,hk,h2,h3,Ext.push U I hm.len _ _,⟨[typeHandle P t,.pointer (some ⟨w.heap.size,0,none⟩),.int .u64 151],rfl,?_,⟨w.heap.size,?_,rfl⟩,cy.int _ _,tV⟩⟩;.rw[hF];show((ReflectliteValue.unpack (.iface t (.slice a m cap))).run P w).andThen _=_;rw[run_valueOf_slice t e i hi hd];rfl
  .exact cy.raw _ rfl
  .rw[<-hm.len,Bb om];simp
theorem ZI{G:FuncId}(hF:∀args w,(callFunc F args).run P w=((ReflectliteSwapper.swapper "internal/reflectlite" (ReflectliteValue.valueError "Swapper") args).run P w).andThen λv w'=>.ok (.value v) w')(hi:P.info? t=some i)(hd:i.desc=.slice e)(Na:P.info? e=some ie){ke:Nat}(ZJ:∀w,(kind e).run P w=.ok ke w){id s:Nat}(hG:P.funcs.findIdx? (·.name=="internal/reflectlite"++".Swapper$"++toString (swapperK m ie ke))=some G)(hk:K (.fn G (if swapperK m ie ke<=2then[]else[.cL id s n 0 m,.raw (typeHandle P e)])) U):jE P c (.fn F []) [.gW t [.cL id s n 0 m]] U K fx:=by refine⟨F,[],rfl,.inr λw L I kb hm ha=>?_⟩;match kb,ha with
 |[v1],⟨h1,_⟩=>
  obtain⟨y,rfl,hy,_⟩:=h1;have ZK:gC w L U I (.cL id s n 0 m) y:=hy;obtain⟨a,cap,rfl,_⟩:=hy;refine⟨.func (.func G) #[] (if swapperK m ie ke<=2then#[]else#[.slice a m cap,typeHandle P e]),_,w,L,U,I,?_,hk,hm,Le.refl _ _,Ext.refl _ _,?_⟩;.rw[hF];show((ReflectliteSwapper.swapper _ _ #[.iface t (.slice a m cap)]).run P w).andThen _=_;rw[run_swapper_slice t e i ie hi hd Na ke ZJ a m cap G hG];rfl
  .split;.exact⟨[],rfl,tV⟩
   .exact⟨[.slice a m cap,typeHandle P e],rfl,ZK,cy.raw _ rfl,tV⟩
theorem ZL(hF:∀args w,(callFunc F args).run P w=((ReflectliteValue.method (ReflectliteValue.valueError "reflectlite.Value.Len" 0) ReflectliteValue.len args).run P w).andThen λv w'=>.ok (.value v) w')(hi:P.info? t=some i)(hd:i.desc=.slice e)(ZM:P.packed t=false){id s:Nat}(cD:U[k]?=some (.box [.cL id s n 0 m]))(hk:K (.int .i64 m) U):jE P c (.fn F []) [.agg [.raw (typeHandle P t),.ptr k 0,.int .u64 151]] U K fx:=by refine⟨F,[],rfl,.inr λw L I kb hm ha=>?_⟩;match kb,ha with |[v1],⟨h1,_⟩=>obtain⟨xs,rfl,h2⟩:=h1;match xs,h2 with
  |[x1,x2,x3],⟨g1,g2,g3,_⟩=>
   have e1:x1=typeHandle P t:=by cases g1;rfl
   have e3:x3=.int .u64 151:=by cases g3;rfl
   subst e1;subst e3;obtain⟨b,dd,rfl⟩:=g2;obtain⟨b',arr,T,fz,eb,hh,hf,hL,hc⟩:=hm.cW k _ _ cD dd;cases eb;obtain⟨z,hz,hr⟩:=hc.get 0 _ rfl;obtain⟨a,cap,rfl,_⟩:=hr;refine⟨_,_,w,L,U,I,?_,hk,hm,Le.refl _ _,Ext.refl _ _,cy.int _ _⟩;rw[hF];show((ReflectliteValue.method (ReflectliteValue.valueError "reflectlite.Value.Len" 0) ReflectliteValue.len #[.agg #[typeHandle P t,.pointer (some ⟨b,0,none⟩),.int .u64 151]]).run P w).andThen _=_;rw[run_valueLen_slice t e i hi hd ZM ⟨b,0,none⟩ a m cap w (by grind[World.cell?])];rfl
end
end Go.Vx
