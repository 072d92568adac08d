/-
  internal/reflectlite's Swapper over trees: the function literal that it hands back changes two rows of a list of one's own (the kit's law of it, lifted).
  No condition: a library text; nothing of the program is named.
-/
import Derived.Test.YtegbonbgofjlcaaGreatMAF
import Derived.Shelf.SlSortCmp.NoneTotal
import Derived.Lib.ReflectliteSwap
import Derived.Lib.ReflectliteSlice
set_option maxHeartbeats 8000000
namespace Go.Vx
open Go Go.Shelf Go.Sort Go.Proofs
structure SE(s:Nat)where
 n:Int
 t:alW
 rest:alY
 len:rest.length+2=s
 one:∀v∈rest,v.oneCell'=true
def SE.enc{s:Nat}(x:SE s):alY:=.int .i64 x.n::.string ⟨x.t.toArray⟩::x.rest
def SE.key{s:Nat}(x:SE s):Int×alW:=(x.n,x.t)
@[instance_reducible]def wG3{s:Nat}(h:2<=s):Inhabited (SE s):=⟨⟨0,[],List.replicate (s-2) (.int .i64 0),by simp;omega,λv hv=>by rw[List.eq_of_mem_replicate hv];rfl⟩⟩
theorem SE.nb{s:Nat}(x:SE s):x.enc.length=s:=by simp[SE.enc,<-x.len]
theorem SE.y5{s:Nat}(x:SE s):∀v∈x.enc,v.oneCell'=true:=λv hv=>by
 simp only[SE.enc,Af]at hv;rcases hv with rfl|rfl|hv;.rfl
 .rfl
 .exact x.one v hv
theorem bP.Ft{U J:Type}{R:U->J->Prop}{ds ab:List J}(hp:ds.Perm ab):∀{xs:List U},bP R xs ds->∃aa,xs.Perm aa/\bP R aa ab:=by induction hp with
 |nil=>intro xs h;cases xs with |nil=>exact⟨[],.refl _,tV⟩|cons _ _=>exact h.elim
 |cons d _ ih=>intro xs h;cases xs with |nil=>exact h.elim|cons x xs=>obtain⟨aa,h1,h2⟩:=ih h.2;exact⟨x::aa,h1.cons x,h.1,h2⟩
 |swap a b l=>intro xs h;match xs,h with |x::y::xs,h=>exact⟨y::x::xs,.swap y x xs,h.2.1,h.1,h.2.2⟩|[_],h=>exact h.2.elim|[],h=>exact h.elim
 |trans _ _ ad ae=>intro xs h;obtain⟨ah,h1,h2⟩:=ad h;obtain⟨af,h3,h4⟩:=ae h2;exact⟨af,h1.trans h3,h4⟩
theorem bP.split{U J:Type}{R:U->J->Prop}:∀{l l':List U}{m:List J},bP R (l++l') m->∃m1 m2,m=m1++m2/\bP R l m1/\bP R l' m2
 |[],l',m,h=>⟨[],m,rfl,tV,h⟩|a::l,l',[],h=>h.elim|a::l,l',b::m,h=>by obtain⟨m1,m2,rfl,h1,h2⟩:=bP.split h.2;exact⟨b::m1,m2,rfl,⟨h.1,h1⟩,h2⟩
section
variable{P:Program}{c:Ctx}{w:World}{L:Nat->Nat}{I:St}{J:alY}
theorem TM{s:Nat}{X:Type}{f:X->List V}{kx:X->Int×alW}(hf:∀x,∃rest,f x=.int .i64 (kx x).1::.str (kx x).2::rest/\rest.length+2=s):∀(xs:List X)(aa:alY),bP (dy w L I J) ((xs.map f).flatten) aa->∃ds:List (SE s),ds.flatMap SE.enc=aa/\bP (λx d=>bP (dy w L I J) (f x) d.enc/\d.key=kx x) xs ds
 |[],aa,h=>by cases aa with |nil=>exact⟨[],rfl,tV⟩|cons _ _=>exact h.elim
 |x::xs,aa,h=>by rw[Ag,D3]at h;obtain⟨m1,m2,rfl,h1,h2⟩:=bP.split h;obtain⟨ds,h3,h4⟩:=TM hf xs m2 h2;obtain⟨rest,hr,hl⟩:=hf x;have ab:=h1;rw[hr]at h1;match m1,h1 with
  |v1::v2::vr,⟨a1,a2,a3⟩=>
   have e1:v1=.int .i64 (kx x).1:=yQ (dP.dX a1);have e2:v2=.string ⟨(kx x).2.toArray⟩:=lU (dP.dX a2);subst e1 e2;have hlen:=a3.length;refine⟨⟨(kx x).1,(kx x).2,vr,om,λv hv=>?_⟩::ds,?_,⟨?_,rfl⟩,h4⟩;.obtain⟨q,_,hq⟩:=a3.nX hv;exact hq.dS
   .rw[Br,h3];rfl
   .exact ab|[],h1=>exact h1.elim|[_],⟨_,h1⟩=>exact h1.elim
theorem xF5{W w':World}{L0 L':Nat->Nat}{I':St}{J':alY}(h:Mem (entry W L0 [] []) w' L' I' J'):∃q aa,w'=Sort.grow (W.drewN q) aa:=by
 refine⟨w'.drawn-W.drawn,w'.heap.extract W.heap.size w'.heap.size,?_⟩;have h1:w'.heap=W.heap++w'.heap.extract W.heap.size w'.heap.size:=by
  have hs:W.heap.size<=w'.heap.size:=h.size;apply Array.ext;.simp;omega
  .intro i hi ab;by_cases q:i<W.heap.size;.have:=(h.same i q (by simp[entry,vM])).1;have e1:w'.heap[i]?=some w'.heap[i]:=B4 hi;have e2:W.heap[i]?=some W.heap[i]:=B4 q;rw[Array.getElem_append_left q];have this:w'.heap[i]?=W.heap[i]?:=this;rw[e1,e2]at this;exact alI this
   .rw[Array.getElem_append_right om];simp only[Array.getElem_extract];congr 1;omega
 have h2:w'.os=W.os:=h.os;have h3:w'.tape=W.tape:=h.tape;have h4:w'.output=W.output:=h.output;have h5:W.drawn<=w'.drawn:=h.drawn;obtain⟨hp,tp,dr,os,out⟩:=w';simp only at h1 h2 h3 h4 h5;unfold Sort.grow World.drewN;simp only;rw[<-h1,<-h2,<-h3,<-h4,show W.drawn+(dr-W.drawn)=dr by omega]
theorem Mem.ahead(h:Mem c w L I J)(n:Nat):Mem c (Sort.ahead w n) L I J/\Le w L (Sort.ahead w n) L:=by have hle:Le w L (Sort.ahead w n) L:=⟨λ_=>A7 _,λ_ _ _=>rfl⟩;refine⟨⟨h.len,λi o x hi hx=>(h.dE i o x hi hx).step hle (Ext.refl _ _) λb hb=>⟨rfl,rfl⟩,h.apart,h.gA,h.same,h.le.trans hle,h.size,h.os,h.tape,h.output,Ax h.drawn (Nat.le_add_right _ _),h.lim,h.ext,h.jV⟩,hle⟩
theorem Mem.grow(h:Mem c w L I J)(os:Array Go.Obj):Mem c (Sort.grow w os) L I J/\Le w L (Sort.grow w os) L:=by
 have hb:∀b,b<w.heap.size->(Sort.grow w os).heap[b]?=w.heap[b]?:=λb hb=>by show(w.heap++os)[b]?=_;rw[Dr hb]
 have hle:Le w L (Sort.grow w os) L:=by
  refine⟨λ_=>A7 _,λb o ho=>?_⟩;have:b<w.heap.size:=by
   rcases C3 b w.heap.size with q|q;.exact q
   .rw[h.lim b q]at ho;omega
  exact Ei (hb b this) o
 refine⟨⟨h.len,λi o x hi hx=>(h.dE i o x hi hx).step hle (Ext.refl _ _) λb ab=>⟨hb b ((h.dE i o x hi hx).fh ab),rfl⟩,h.apart,h.gA,λb aa hx=>?_,h.le.trans hle,?_,h.os,h.tape,h.output,h.drawn,λb aa=>?_,h.ext,h.jV⟩,hle⟩;.have:=h.same b aa hx;exact⟨(hb b (Dk aa h.size)).trans this.1,this.2⟩
 .have:(Sort.grow w os).heap.size=w.heap.size+os.size:=by show(w.heap++os).size=_;simp
  rw[this];exact Ax h.size (Nat.le_add_right _ _)
 .have:(Sort.grow w os).heap.size=w.heap.size+os.size:=by show(w.heap++os).size=_;simp
  rw[this]at aa;exact h.lim b om
theorem yH5{b:Nat}{arr:am0}{T:TypeId}{fz:Nat×Nat}(h:w.heap[b]?=some (.cells arr T fz))(f:am0->am0):mapBlock w b f=yG w b (.cells (f arr) T fz):=by
 have hb:b<w.heap.size:=(Bu.1 h).1;have hx:w.heap[b]'hb=.cells arr T fz:=by rw[B4 hb]at h;exact alI h
 unfold mapBlock yG;congr 1;apply Array.ext;.simp
 .intro i h1 h2;rw[Array.getElem_modify,Array.getElem_setIfInBounds]
  .by_cases q:b=i;.subst q;rw[alq rfl,alq rfl,hx];rfl
   .rw[alp q,alp q]
theorem yi2(F arr:am0)(h:F.size<=arr.size):Go.Sort.putCells id 0 F arr=yH arr 0 F.toList:=by
 unfold Go.Sort.putCells;apply Array.ext;.simp[yK]
 .intro i h1 h2;have hi:i<arr.size:=sU h1;have hs:=wV F.toList arr 0 i (sU h);rw[B4 h2]at hs;by_cases q:i<F.size;.rw[alq (sU q)]at hs;simp only[Nat.sub_zero,Ao,B4 q,alu]at hs;rw[hs,Array.getElem_mapIdx];simp[q]
  .rw[alp (sU q),B4 hi,alu]at hs;rw[hs,Array.getElem_mapIdx];simp[q]
theorem TN{s:Nat}(hs:0<s)[Inhabited (SE s)](d:Array (SE s)):(Go.Sort.flatK SE.enc s d).toList=d.toList.flatMap SE.enc:=by
 have hu:∀r∈d.toList.map SE.enc,r.length=s:=λr hr=>by obtain⟨x,_,rfl⟩:=Ab.1 hr;exact x.nb
 have aa:d.toList.flatMap SE.enc=(d.toList.map SE.enc).flatten:=List.flatMap_def ..;have ab:(d.toList.map SE.enc).flatten.length=d.size*s:=by rw[yE hu];simp
 rw[aa];apply Bi;intro t;rw[Ao];by_cases ht:t<d.size*s
 .have h1:t<(Go.Sort.flatK SE.enc s d).size:=by rw[size_flatK];exact ht
  have h2:=get_flatK SE.enc s d t ht;rw[alP _ t h1]at h2;rw[B4 h1,h2];have hq:t/s<d.size:=Nat.div_lt_of_lt_mul (by rw[Dx];exact ht);have hr:t%s<s:=Cw _ hs;have h3:=yS (rows:=d.toList.map SE.enc) (t/s) (t%s) hu hr;rw[show t/s*s+t%s=t by rw[Dx];exact Cx t s]at h3;rw[h3,B9,Ao,B4 hq,alP d _ hq];simp only[Bf,Av];have hl:t%s<(SE.enc d[t/s]).length:=by rw[SE.nb];exact hr
  rw[A0 hl,alP (SE.enc d[t/s]) (t%s) hl]
 .rw[Array.getElem?_eq_none (by rw[size_flatK];omega),Do om]
theorem TP{s:Nat}{X:Type}{f:X->List V}{p:X->SE s->Prop}:∀{xs:List X}{ds:List (SE s)},bP (λx d=>bP (dy w L I J) (f x) d.enc/\p x d) xs ds->bP (dy w L I J) (xs.map f).flatten (ds.flatMap SE.enc)
 |[],[],_=>trivial|x::xs,d::ds,h=>by rw[Ag,D3,Br];exact bP.append h.1.1 (TP h.2)|[],_::_,h=>h.elim|_::_,[],h=>h.elim
theorem xJ3{ρ:Ren}(La:SlLaysF0.n6 P ρ){s:Nat}(hs:2<=s)(aE:∀w,(isAgg (ρ.t 24)).run P w=.ok true w)(zE:∀w,(Go.sizeOf (ρ.t 24)).run P w=.ok s w){gf:Nat}(hgb:xI P gf){C:Int×alW->Int×alW->Int}(hO:SWO λa b=>decide (C a b<0))(hg:∀x y:Int×alW,Pure P gf [.agg (.int .i64 x.1::.str x.2::List.replicate (s-2) .u),.agg (.int .i64 y.1::.str y.2::List.replicate (s-2) .u)] (.int .i64 (C x y))){X:Type}{f:X->List V}{kx:X->Int×alW}(hf:∀x,∃rest,f x=.int .i64 (kx x).1::.str (kx x).2::rest/\rest.length+2=s){id:Nat}{xs:List X}(hm:Mem c w L I J)(cP:I[id]?=some (.cv (xs.map f) s))(hlen:xs.length<4611686018427387904){v:Value}(hv:dP w L I J (.cS id s xs.length 0 xs.length) v):Calls P (ρ.f 6) #[v,.func (.func gf) #[] #[]] w λe w'=>e=.returned (.tuple #[])/\∃rU,xs.Perm rU/\rU.Pairwise (λa b=>¬C (kx b) (kx a)<0)/\Mem c w' L (I.set id (.cv (rU.map f) s)) J/\Le w L w' L/\Ext I J (I.set id (.cv (rU.map f) s)) J:=by
 haveI:=wG3 hs;obtain⟨a,cap,rfl,⟨hc1,_⟩,_,hv⟩:=hv;rcases hv with hd|⟨rows,I6,hn,hb⟩;.rw[cP]at hd;cases hd
 rw[cP]at I6;obtain rfl:xs.map f=rows:=by cases I6;rfl
 obtain⟨bb,c0,dD,dG,_,hblk⟩:=hb sM;have I7:I.set id (.cv (xs.map f) s)=I:=yP I id _ cP;by_cases hx0:xs.length=0;.obtain rfl:xs=[]:=B3 hx0;refine(AnyF.slices_SortFunc_none (P:=P) (ρ:=ρ) La a cap (.func (.func gf) #[] #[]) w).mono ?_;rintro e w'⟨rfl,rfl⟩;exact⟨rfl,[],.refl _,List.Pairwise.nil,by rw[I7];exact hm,Le.refl _ _,by rw[I7];exact Ext.refl _ _⟩
 have I8:0<c0:=om;obtain⟨k,rfl,rfl⟩:=hblk I8;obtain⟨a',acb,e,DF,hs0,hu,cZ⟩:=hm.dE id _ _ cP dD;simp only[Au]at e;cases e;obtain⟨b',arr,T,fz,e,hh,hfz,Iq,hL,uv⟩:=cZ I8;cases e;have hkl:k<w.heap.size:=(Bu.1 hh).1;simp only[Au]at DF uv;obtain⟨ds,hds,I9⟩:=TM hf xs _ uv;have hdl:=I9.length;have hns:xs.length*s<=arr.size:=Ax (Ak s DF) Iq;have Pb:=TN om ds.toArray;have nf:ds.toArray.size=xs.length:=by simp[hdl]
 have hH:HoldsK SE.enc s w k 0 ds.toArray:=by
  intro j hj;rw[size_flatK,nf]at hj;have h1:(Go.Sort.flatK SE.enc s ds.toArray).toList[j]?=arr[j]?:=by rw[Pb,hds,An,alq hj,Ao]
  have Pc:j<arr.size:=om;have TQ:j<(Go.Sort.flatK SE.enc s ds.toArray).size:=by rw[size_flatK,nf];exact hj
  rw[Ao,B4 TQ,B4 Pc,alu]at h1;refine⟨?_,?_⟩;.rw[alP _ j TQ,h1];simp[World.cell?,hh,Pc]
  .have:=hfz.1 j Pc;simp[World.frozen?,hh];omega
 obtain⟨fn,NX,ue,uf⟩:=KL hgb;have eg:∀args w,(callFunc gf args).run P w=.ok (.enter gf args) w:=λargs w=>by
  have NY:¬fn.body=none:=by intro q;simp[q]at uf
  have Ip:¬fn.name="runtime.NumGoroutine":=sU ue;simp[callFunc,NX,Ip,NY]
 let cf:SE s->SE s->Int:=λx y=>C x.key y.key;have hOc:SWO (ltOf cf):=⟨λx=>hO.irrefl _,λx y z=>hO.trans _ _ _,λx y z=>hO.ntrans _ _ _⟩;have TS:∀(W:World)(x:SE s),dP W L [] [] (.agg (.int .i64 x.key.1::.str x.key.2::List.replicate (s-2) .u)) (.agg x.enc.toArray):=λW x=>by
  refine⟨x.enc,rfl,dy.dJ (.int _ _),dy.dJ (.str _),?_⟩;have hl:x.rest.length=s-2:=by have:=x.len;omega
  rw[<-hl];have ho:=x.one;generalize x.rest=r at ho;induction r with |nil=>trivial|cons v r ih=>exact⟨ho v sM,ih λu hu=>ho u (by simp[hu])⟩
 have Pd:CmpLays P gf #[] SE.enc s cf k 0 ds.toArray.size w:=by
  intro m os dk _ x y;generalize hW:sortWorldK SE.enc s w k 0 m dk os=W;have Ja:∀b,b≠k->b<w.heap.size->W.heap[b]?=w.heap[b]?:=λb hb hbl=>by
   rw[<-hW];show((putRowK SE.enc s (Sort.ahead w m) k 0 dk).heap++os)[b]?=_;have Fu:(putRowK SE.enc s (Sort.ahead w m) k 0 dk).heap.size=w.heap.size:=by unfold putRowK;rw[Go.Sort.size_putRow];rfl
   rw[Dr (by rw[Fu];exact hbl)];show(w.heap.modify k _)[b]?=_;rw[Array.getElem?_modify,alp (λq=>hb q.symm)]
  have Pe:w.heap.size<=W.heap.size:=by
   rw[<-hW];show _<=((putRowK SE.enc s (Sort.ahead w m) k 0 dk).heap++os).size;have Fu:(putRowK SE.enc s (Sort.ahead w m) k 0 dk).heap.size=w.heap.size:=by unfold putRowK;rw[Go.Sort.size_putRow];rfl
   rw[Array.size_append,Fu];omega
  have Pf:Le w L W L:=by
   refine⟨λ_=>A7 _,λb o ho=>?_⟩;have Ip:b≠k:=λq=>by subst q;rw[hL]at ho;omega
   have:b<w.heap.size:=by
    rcases C3 b w.heap.size with q|q;.exact q
    .rw[hm.lim b q]at ho;omega
   exact Ei (Ja b Ip this) o
  have hmW:Mem (entry W L [] []) W L [] []:=⟨rfl,λi o x ho _=>by simp at ho,λi j o o' x x' b _ ho _ _ _ _=>by simp at ho,λi o x b ho _ _=>by simp at ho,λb _ _=>⟨rfl,rfl⟩,Le.refl _ _,A7 _,rfl,rfl,rfl,A7 _,λb hb=>hm.lim b (Ax Pe hb),Ext.refl _ _,(hm.jV.mono hm.le).mono Pf⟩;have n5:=hg x.key y.key W L [] [.agg x.enc.toArray,.agg y.enc.toArray] hmW ⟨TS W x,TS W y,tV⟩;have e1:(#[.agg x.enc.toArray,.agg y.enc.toArray]++#[]:am0)=[Value.agg x.enc.toArray,Value.agg y.enc.toArray].toArray:=sM;rw[e1];refine n5.mono ?_;rintro e w'⟨v,r,L',I',J',rfl,⟨rfl,rfl⟩,_,hm',Ex⟩;exact⟨by rw[yQ Ex],xF5 hm'⟩
 rw[D0,<-nf];refine(AnyQ.slices_SortFunc (P:=P) (ρ:=ρ) La s aE zE SE.enc (λx=>x.nb) (λx=>x.y5) cf hOc gf #[] k 0 cap ds.toArray w eg Pd hH hkl (by rw[nf];exact hlen)).mono ?_;rintro e w'⟨rfl,d',nn,os,⟨uD,_,LQ⟩,y6,rfl⟩;have acn:d'.toList.length=xs.length:=by rw[Cv,uD,nf]
 have LQ:d'.toList.Perm ds:=by
  have e1:d'.extract 0 ds.toArray.size=d':=by rw[<-uD];simp
  have e2:ds.toArray.extract 0 ds.toArray.size=ds.toArray:=sM;rw[e1,e2]at LQ;exact LQ
 obtain⟨rU,TT,DG⟩:=bP.Ft LQ.symm I9;have Pg:=TT.length_eq;refine⟨rfl,rU,TT,?_,?_⟩
 .rw[Cz];intro i j hi hj hij;have TU:i<d'.size:=by rw[uD,nf];omega
  have TV:j<d'.size:=by rw[uD,nf];omega
  have h1:=y6 i j (A5 _) hij (by rw[nf];omega);rw[alP d' i TU,alP d' j TV]at h1;have key:∀(q:Nat)(hq:q<rU.length)(TW:q<d'.size),d'[q].key=kx rU[q]:=λq hq TW=>by obtain⟨b,hb,r⟩:=DG.get q _ (A0 hq);rw[Ao,B4 TW,alu]at hb;rw[hb];exact r.2
  have h2:decide (C d'[j].key d'[i].key<0)=false:=h1;rw[key i hi TU,key j hj TV]at h2;exact alE h2
 .obtain⟨hm1,Jb⟩:=hm.ahead nn;have TX:eU s (rU.map f):=λr hr=>by obtain⟨x,_,rfl⟩:=Ab.1 hr;obtain⟨rest,h1,h2⟩:=hf x;rw[h1];simp;omega
  have Ph:=yE hu;have Pj:=yE TX;have hv2:bP (dy (Sort.ahead w nn) L I J) (rU.map f).flatten (d'.toList.flatMap SE.enc):=(TP DG).imp λ_ _=>dy.mono Jb (Ext.refl _ _);have Pm:(rU.map f).flatten=putCells (xs.map f).flatten 0 (rU.map f).flatten:=by unfold putCells;rw[D2,Cc,Bt (by rw[Ph,Ae,Pj];simp[Pg]),Aw]
  obtain⟨Pn,T2,fz2,h1,_,h3,h4,h5,h6⟩:=hm1.gI (off:=0) cP dD I8 hv2 (A5 _) TX Pm (by simp[Pg]) (by simp only[Au];omega);have TY:w.heap[k]?=some (.cells Pn T2 fz2):=h1;rw[hh]at TY;cases TY;have Po:J.set id (.slice (some ⟨k,0,none⟩) (rU.map f).length c0)=J:=yP J id _ (by rw[dD];simp[Pg]);rw[Po]at h4 h6;have hfd:=TN om d';have Jd:putRowK SE.enc s (Sort.ahead w nn) k 0 d'=yG (Sort.ahead w nn) k (.cells (yH arr 0 (d'.toList.flatMap SE.enc)) T fz):=by unfold putRowK Go.Sort.putRow;rw[yH5 (w:=Sort.ahead w nn) hh,yi2 _ _ (by rw[size_flatK,uD,nf];exact hns),hfd]
  obtain⟨h7,h8⟩:=h4.grow os;unfold sortWorldK;rw[Jd];exact⟨h7,Jb.trans (h5.trans h8),h6⟩
theorem TZ{ρ:Ren}(La:SlLaysF0.n6 P ρ){F:Nat}(hF:ρ.f 6=F)(ae:xI P F){s:Nat}(hs:2<=s)(aE:∀w,(isAgg (ρ.t 24)).run P w=.ok true w)(zE:∀w,(Go.sizeOf (ρ.t 24)).run P w=.ok s w){gf:Nat}(af:xI P gf){C:Int×alW->Int×alW->Int}(hO:SWO λa b=>decide (C a b<0))(hg:∀x y:Int×alW,Pure P gf [.agg (.int .i64 x.1::.str x.2::List.replicate (s-2) .u),.agg (.int .i64 y.1::.str y.2::List.replicate (s-2) .u)] (.int .i64 (C x y))){X:Type}{f:X->List V}{kx:X->Int×alW}(hf:∀x,∃rest,f x=.int .i64 (kx x).1::.str (kx x).2::rest/\rest.length+2=s){id:Nat}(xs:List X)(cP:I[id]?=some (.cv (xs.map f) s))(hlen:xs.length<4611686018427387904){K:V->St->Prop}(hk:∀aa,xs.Perm aa->aa.Pairwise (λa b=>¬C (kx b) (kx a)<0)->K (.cC []) (I.set id (.cv (aa.map f) s))):jn P c (.fn F []) [.cS id s xs.length 0 xs.length,.fn gf []] I K fx:=by refine⟨F,[],rfl,.inl ⟨KL ae,λw L J ab hm ha=>?_⟩⟩;match ab,ha with |[v1,v2],⟨h1,h2,_⟩=>obtain⟨ys,rfl,hy⟩:=h2;cases ys with |cons _ _=>exact hy.elim|nil=>have:=xJ3 (c:=c) La hs aE zE af hO hg hf hm cP hlen h1;rw[hF]at this;refine this.mono ?_;rintro e w'⟨rfl,aa,hp,ah,ai,hle,ad⟩;exact⟨.tuple #[],.cC [],L,_,J,rfl,hk aa hp ah,ai,hle,ad,[],rfl,tV⟩
end
end Go.Vx
namespace Go.Vx
open Go Go.Extern Go.Extern.Rtype Go.Lib Go.RowKit
section
variable{P:Program}{c:Ctx}{w:World}{L:Nat->Nat}{I:St}{J:alY}
variable{F:FuncId}{e:TypeId}{K:V->St->Prop}{n:Nat}{k:Nat}{ie:TypeInfo}{i:TypeInfo}{t:TypeId}{m:Nat}
theorem yu4{U:Type}{s:Nat}{rows:List (List U)}(hu:∀r∈rows,r.length=s)(hk:k<rows.length):(rows.flatten.drop (k*s)).take s=rows[k]:=by
 have hr:=hu _ (A9 hk);have hlen:=yE hu;have aa:(k+1)*s<=rows.length*s:=Ak _ hk;rw[B5,Dc]at aa;refine Bi λj=>?_;by_cases q:j<s;.rw[List.getElem?_take_of_lt q,Cb,yS k j hu q,A0 hk];rfl
 grind
theorem T0{rows:List (List V)}{s:Nat}{arr:am0}(hu:∀r∈rows,r.length=s)(ha:bP (dy w L I J) rows.flatten (arr.toList.take (rows.length*s)))(hk:k<rows.length):bP (dy w L I J) (rows[k]) ((arr.toList.drop (k*s)).take s):=by have aa:(k+1)*s<=rows.length*s:=Ak _ hk;rw[B5,Dc]at aa;have h:=(bP.drop (k*s) ha).take s;grind[yu4,List.drop_take]
theorem T3{vs:List V}{xs:alY}(h:bP (dy w L I J) vs xs):∀x∈xs,x.oneCell'=true:=by
 intro x hx;obtain⟨k,hk⟩:=Aq.1 hx;have aa:k<vs.length:=by rw[h.length];grind
 obtain⟨z,hz,r⟩:=h.get k _ (A0 aa);rw[hk]at hz;cases hz;exact r.dS
theorem wd7{gS:Bool}(hF:∀args w,(callFunc F args).run P w=((ReflectliteSwapper.swap gS args).run P w).andThen λv w'=>.ok (.value v) w')(aj:P.info? e=some ie)(ah:∀w,(isAgg e).run P w=.ok true w){id i j:Nat}{rows:List (List V)}(cP:I[id]?=some (.cv rows ie.size))(hi:i<rows.length)(hj:j<rows.length)(hk:K (.cC []) (I.set id (.cv ((rows.set i (rows[j]'hj)).set j (rows[i]'hi)) ie.size))):jn P c (.fn F [.cS id ie.size rows.length 0 rows.length,.raw (typeHandle P e)]) [.int .i64 i,.int .i64 j] I K fx:=by refine⟨F,_,rfl,.inr λw L J an hm ha=>?_⟩;match an,ha with
 |[v1,v2,v3,v4],⟨h1,h2,h3,h4,_⟩=>
  have e1:v1=.int .i64 i:=by cases h1;rfl
  have e2:v2=.int .i64 j:=by cases h2;rfl
  have e4:v4=typeHandle P e:=by cases h4;rfl
  subst e1;subst e2;subst e4;obtain⟨a,cap,rfl,⟨aQ,_⟩,_,hd|⟨cI,ao,_,hb⟩⟩:=h3;.grind
  rw[cP]at ao;cases ao;obtain⟨b,c0,dD,aR,_,hblk⟩:=hb rfl;obtain⟨k,rfl,aq⟩:=hblk om;rw[D0]at aq;subst aq;obtain⟨a',aH,ex,dG,hs,hu,cZ⟩:=hm.dE id _ _ cP dD;cases ex;obtain⟨b',arr,T,fz,eb,hh,hf,aS,hL,ai⟩:=cZ om;cases eb;have hX:=T0 hu ai hi;have hY:=T0 hu ai hj;obtain⟨X,ax⟩:=eX ((arr.toList.drop (i*ie.size)).take ie.size);obtain⟨Y,ay⟩:=eX ((arr.toList.drop (j*ie.size)).take ie.size);rw[ax]at hX;rw[ay]at hY;have lX:X.length=ie.size:=by rw[<-hX.length];grind
  have lY:Y.length=ie.size:=by rw[<-hY.length];grind
  have oX:=T3 hX;have oY:=T3 hY;have az:(i+1)*ie.size<=rows.length*ie.size:=Ak _ hi;have a1:(j+1)*ie.size<=rows.length*ie.size:=Ak _ hj;have aT:rows.length*ie.size<=c0*ie.size:=Ak _ dG;rw[B5,Dc]at az a1;have cX:∀q v,X[q]?=some v->w.cell? ⟨k,i*ie.size+q,none⟩=some v:=(by grind[World.cell?]);have cY:∀q v,Y[q]?=some v->w.cell? ⟨k,j*ie.size+q,none⟩=some v:=(by grind[World.cell?]);have l1:=rl_loadVar_cells (P:=P) e ie aj ah k (i*ie.size) X lX w cX;have l2:=rl_loadVar_cells (P:=P) e ie aj ah k (j*ie.size) Y lY w cY;have ae:∀n:Nat,n=rows.length->J.set id (.slice (some ⟨k,0,none⟩) n c0)=J:=(by grind[yP]);have aI:∀(q:Nat)(hq:q<rows.length)(r:List V),r.length=ie.size->(rows.set q r).flatten=putCells rows.flatten (q*ie.size) r:=λq hq r hr=>by
   have h5:=KB (s:=ie.size) (vs:=r) (rows:=rows) q 0 hu hq om;have e5:putCells (rows.getD q []) 0 r=r:=by simp_all[putCells]
   grind
  obtain⟨aJ,T1,aU,ar,a6,aK,ad,af,aa⟩:=hm.gI (cI:=rows.set i (rows[j]'hj)) (off:=i*ie.size) cP dD om hY om (λr hr=>by grind) (by grind) sM (by grind);rw[ae _ sM]at ad aa;rw[hh]at ar;cases ar;have st1:=xU P k (i*ie.size) T fz Y 0 arr w hh a6 om oY;rw[D7]at st1;obtain⟨w1,a7⟩:=eX (yG w k (.cells (yH arr (i*ie.size) Y) T fz));obtain⟨I1,a8⟩:=eX (I.set id (.cv (rows.set i (rows[j]'hj)) ie.size));rw[a7]at ad af st1;rw[a8]at ad aa;have aL:id<I.length:=(by grind);have au:I1[id]?=some (.cv (rows.set i (rows[j]'hj)) ie.size):=by grind
  have aA:∀r∈rows.set i (rows[j]'hj),r.length=ie.size:=(by grind);have ak:((rows.set i (rows[j]'hj)).set j (rows[i]'hi)).flatten=putCells (rows.set i (rows[j]'hj)).flatten (j*ie.size) (rows[i]'hi):=by
   have hr:=hu _ (A9 hi);have h5:=KB (s:=ie.size) (vs:=rows[i]'hi) (rows:=rows.set i (rows[j]'hj)) j 0 aA (by grind) om;have e5:putCells ((rows.set i (rows[j]'hj)).getD j []) 0 (rows[i]'hi)=rows[i]'hi:=by simp_all[putCells]
   grind
  have aB:bP (dy w1 L I1 J) (rows[i]'hi) X:=hX.imp λ_ _ r=>r.mono af aa;have aC:∀n:Nat,n=rows.length->J.set id (.slice (some ⟨k,0,none⟩) n c0)=J:=ae;obtain⟨av,T2,aD,aE,aF,aP,al,aw,ab⟩:=ad.gI (cI:=(rows.set i (rows[j]'hj)).set j (rows[i]'hi)) (off:=j*ie.size) (n:=rows.length) au dD om aB (by grind) (λr hr=>by grind) ak sM (by grind);rw[ae _ sM]at al ab;have st2:=xU P k (j*ie.size) T2 aD X 0 av w1 aE aF om oX;rw[D7]at st2;have aG:I1.set id (.cv ((rows.set i (rows[j]'hj)).set j (rows[i]'hi)) ie.size)=I.set id (.cv ((rows.set i (rows[j]'hj)).set j (rows[i]'hi)) ie.size):=by grind[List.set_set]
  rw[aG]at al ab;refine⟨.tuple #[],.cC [],_,L,_,J,?_,hk,al,af.trans aw,aa.trans ab,⟨[],rfl,tV⟩⟩;have i0:¬((i:Int)<0):=om;have i1:¬((i:Int)≥(rows.length:Int)):=om;have j0:¬((j:Int)<0):=om;have j1:¬((j:Int)≥(rows.length:Int)):=om;rw[hF];show((ReflectliteSwapper.swap gS #[.int .i64 i,.int .i64 j,.slice (some ⟨k,0,none⟩) rows.length cap,typeHandle P e]).run P w).andThen _=_;rw[rl_swap];cases gS<;>simp[i0,i1,j0,j1,ofHandle,handleType,typeHandle,ReflectliteSwapper.exchange,sizeOf,rl_info e ie aj,Addr.add_lit,l1,l2,storeVar,Value.cells,lX,lY,st1,st2,Result.andThen]
theorem xL1{gS:Bool}(hF:∀args w,(callFunc F args).run P w=((ReflectliteSwapper.swap gS args).run P w).andThen λv w'=>.ok (.value v) w')(ab:P.info? e=some ie)(aa:∀w,(isAgg e).run P w=.ok true w){id i j s:Nat}{rows R:List (List V)}(hs:ie.size=s)(hn:rows.length=n)(cP:I[id]?=some (.cv rows s))(hi:i<n)(hj:j<n)(hR:R=(rows.set i (rows.getD j [])).set j (rows.getD i []))(hk:K (.cC []) (I.set id (.cv R s))):jn P c (.fn F [.cS id s n 0 n,.raw (typeHandle P e)]) [.int .i64 i,.int .i64 j] I K fx:=by subst hs;subst hn;refine wd7 hF ab aa cP hi hj ?_;grind
theorem xe4(hF:∀args w,(callFunc F args).run P w=((ReflectliteValue.unpack (args.getD 0 (.tuple #[]))).run P w).andThen λv w'=>.ok (.value v) w')(hi:P.info? t=some i)(hd:i.desc=.slice e){id s:Nat}(hk:K (.agg [.raw (typeHandle P t),.ptr I.length 0,.int .u64 151]) (I++[.box [.cS id s n 0 m]])):jn P c (.fn F []) [.iw t [.cS id s n 0 m]] I K fx:=by refine⟨F,[],rfl,.inr λw L J aa hm ha=>?_⟩;match aa,ha with
 |[v1],⟨h1,_⟩=>
  obtain⟨y,rfl,hy,_⟩:=h1;have ab:il w L I J (.cS id s n 0 m) y:=hy;obtain⟨a,cap,rfl,_⟩:=hy;obtain⟨h2,h3⟩:=hm.box [.cS id s n 0 m] #[.slice a m cap] t (by trivial);refine⟨_,_,_,L,_,_,?_,hk,h2,h3,Ext.push I J hm.len _ _,⟨[typeHandle P t,.pointer (some ⟨w.heap.size,0,none⟩),.int .u64 151],rfl,?_,⟨w.heap.size,?_,rfl⟩,cM.int _ _,tV⟩⟩;.rw[hF];show((ReflectliteValue.unpack (.iface t (.slice a m cap))).run P w).andThen _=_;rw[run_valueOf_slice t e i hi hd];rfl
  .exact cM.raw _ rfl
  .rw[<-hm.len,Ar om];simp
theorem xe3{G:FuncId}(hF:∀args w,(callFunc F args).run P w=((ReflectliteSwapper.swapper "internal/reflectlite" (ReflectliteValue.valueError "Swapper") args).run P w).andThen λv w'=>.ok (.value v) w')(hi:P.info? t=some i)(hd:i.desc=.slice e)(Pp:P.info? e=some ie){ke:Nat}(hke:∀w,(kind e).run P w=.ok ke w){id s:Nat}(hG:P.funcs.findIdx? (·.name=="internal/reflectlite"++".Swapper$"++toString (swapperK m ie ke))=some G)(hk:K (.fn G (if swapperK m ie ke<=2then[]else[.cS id s n 0 m,.raw (typeHandle P e)])) I):jn P c (.fn F []) [.iw t [.cS id s n 0 m]] I K fx:=by refine⟨F,[],rfl,.inr λw L J kG hm ha=>?_⟩;match kG,ha with
 |[v1],⟨h1,_⟩=>
  obtain⟨y,rfl,hy,_⟩:=h1;have hy2:il w L I J (.cS id s n 0 m) y:=hy;obtain⟨a,cap,rfl,_⟩:=hy;refine⟨.func (.func G) #[] (if swapperK m ie ke<=2then#[]else#[.slice a m cap,typeHandle P e]),_,w,L,I,J,?_,hk,hm,Le.refl _ _,Ext.refl _ _,?_⟩;.rw[hF];show((ReflectliteSwapper.swapper _ _ #[.iface t (.slice a m cap)]).run P w).andThen _=_;rw[run_swapper_slice t e i ie hi hd Pp ke hke a m cap G hG];rfl
  .split;.exact⟨[],rfl,tV⟩
   .exact⟨[.slice a m cap,typeHandle P e],rfl,hy2,cM.raw _ rfl,tV⟩
theorem yN2(hF:∀args w,(callFunc F args).run P w=((ReflectliteValue.method (ReflectliteValue.valueError "reflectlite.Value.Len" 0) ReflectliteValue.len args).run P w).andThen λv w'=>.ok (.value v) w')(hi:P.info? t=some i)(hd:i.desc=.slice e)(hpk:P.packed t=false){id s:Nat}(cP:I[k]?=some (.box [.cS id s n 0 m]))(hk:K (.int .i64 m) I):jn P c (.fn F []) [.agg [.raw (typeHandle P t),.ptr k 0,.int .u64 151]] I K fx:=by refine⟨F,[],rfl,.inr λw L J kG hm ha=>?_⟩;match kG,ha with |[v1],⟨h1,_⟩=>obtain⟨xs,rfl,h2⟩:=h1;match xs,h2 with
  |[x1,x2,x3],⟨g1,g2,g3,_⟩=>
   have e1:x1=typeHandle P t:=by cases g1;rfl
   have e3:x3=.int .u64 151:=by cases g3;rfl
   subst e1;subst e3;obtain⟨b,dD,rfl⟩:=g2;obtain⟨b',arr,T,fz,eb,hh,hf,hL,hc⟩:=hm.dE k _ _ cP dD;cases eb;obtain⟨z,hz,hr⟩:=hc.get 0 _ rfl;obtain⟨a,cap,rfl,_⟩:=hr;refine⟨_,_,w,L,I,J,?_,hk,hm,Le.refl _ _,Ext.refl _ _,cM.int _ _⟩;rw[hF];show((ReflectliteValue.method (ReflectliteValue.valueError "reflectlite.Value.Len" 0) ReflectliteValue.len #[.agg #[typeHandle P t,.pointer (some ⟨b,0,none⟩),.int .u64 151]]).run P w).andThen _=_;rw[run_valueLen_slice t e i hi hd hpk ⟨b,0,none⟩ a m cap w (by grind[World.cell?])];rfl
end
end Go.Vx
