/-
  Structs held against each other: bools, numbers and texts, cell by cell.
  No condition: a library text; nothing of the program is named.
-/
import Derived.Test.YtkigddpaonhmlaaGreatXAA
import Derived.Deep.AppendSrc
import Derived.Laws.StructEq
import Derived.Laws.BytesArg
import Derived.Laws.IdiomStrings
set_option maxHeartbeats 8000000
namespace Go.Vx
open Go
def uni (s:Nat) (rows:List (List V)):Prop:= ∀r∈rows,r.length=s
theorem yA {α:Type} {s:Nat}: ∀{rows:List (List α)},(∀r∈rows,r.length=s)->rows.flatten.length=rows.length*s
 | [],_=>by simp
 |r::rows,h=>by
  have:=yA (rows:=rows) fun x hx=>h x (by simp[hx])
  rw[C9,Aw,this,h r (by simp),Ah,An,Bj,E2]
theorem yM {α:Type} {s:Nat}: ∀{rows:List (List α)} (i j:Nat),(∀r∈rows,r.length=s)->j<s->rows.flatten[i*s+j]? =(rows[i]?).bind fun r=>r[j]?
 | [],i,j,_,_=>by simp
 |r::rows,0,j,h,hj=>by
  rw[C9,Ca,Aa,Ab (by rw[h r (by simp)];exact hj)]
  rfl
 |r::rows,i+1,j,h,hj=>by
  have hr:=h r (by simp)
  rw[C9,Ai (by rw[hr,An];omega),hr,show(i+1)*s+j - s=i*s+j by rw[An];omega,
   yM i j (fun x hx=>h x (by simp[hx])) hj]
  simp
theorem RdP.of_flat {w:World} {L:Nat->Nat} {rows:List (List V)} {s b o cap:Nat} (hs:0<s) (hu:uni s rows) (hlim:o+rows.length*s<=L b) (hcap:rows.length<=cap)
  {g:Tag} (ha: ∀id,g≠ .app id) (hg:g= .full->cap=rows.length)
  (h: ∀(k:Nat) v,rows.flatten[k]? =some v-> ∃x,w.cell? ⟨b,o+k,none⟩=some x/\RdP w L v x):RdP w L (.sl g rows) (.slice (some ⟨b,o,none⟩) rows.length cap):=by
 refine .sl g rows s b o cap (fun i j=>(w.cell? ⟨b,o+i*s+j,none⟩).getD undef) ha hs hu hlim hcap hg (fun i j hi hj=> ?_) (fun i j hi hj=> ?_)
 .have hj':j<rows[i].length:=by rw[hu _ (A8 hi)];exact hj
  obtain⟨x,hx,_⟩:=h (i*s+j) (rows[i][j]) (by rw[yM i j hu hj,A0 hi];simp[hj'])
  rw[<-Bv]at hx
  simp[hx]
 .have hj':j<s:=by rw[<-hu _ (A8 hi)];exact hj
  obtain⟨x,hx,r⟩:=h (i*s+j) (rows[i][j]) (by rw[yM i j hu hj',A0 hi];simp[hj])
  rw[<-Bv]at hx
  simpa[hx]using r
theorem RdP.flat {w:World} {L:Nat->Nat} {rows:List (List V)} {g:Tag} {x:Value} (r:RdP w L (.sl g rows) x) (hne:rows≠ []):
  ∃s b o cap,x= .slice (some ⟨b,o,none⟩) rows.length cap/\0<s/\uni s rows/\o+rows.length*s<=L b/\rows.length<=cap/\(g= .full->cap=rows.length)/\
   ∀(k:Nat) v,rows.flatten[k]? =some v-> ∃y,w.cell? ⟨b,o+k,none⟩=some y/\RdP w L v y:=by
 cases r with
 |sl0=>exact absurd rfl hne
 |sl _ _ s b o cap c ha hs hlen hlim hcap hg hc hr=>
  refine⟨s,b,o,cap,rfl,hs,hlen,hlim,hcap,hg,fun k v hk=> ?_⟩
  have hkl:k<rows.length*s:=by rw[<-yA hlen];exact(A1.1 hk).1
  have hi:k/s<rows.length:=by rw[Cj hs];exact hkl
  have hj:k%s<s:=D1 _ hs
  have hk':k=k/s*s+k%s:=by rw[Bw];exact(Di k s).symm
  rw[hk',yM _ _ hlen hj,A0 hi]at hk
  have hj':k%s<rows[k/s].length:=by rw[hlen _ (A8 hi)];exact hj
  simp only[As,A0 hj',Option.some.injEq]at hk
  subst hk
  refine⟨c (k/s) (k%s), ?_,hr _ _ hi hj'⟩
  have:=hc (k/s) (k%s) hi hj
  rw[Bv,<-hk']at this
  exact this
theorem RdP.len {w:World} {L:Nat->Nat} {rows:List (List V)} {g:Tag} {x:Value} (r:RdP w L (.sl g rows) x): ∃a cap,x= .slice a rows.length cap/\rows.length<=cap/\(g= .full->cap=rows.length):=by
 cases r with
 |sl0 _ a cap hg=>exact⟨_,_,rfl,A3 _,fun e=>hg e⟩
 |sl _ _ s b o cap c ha hs hlen hlim hcap hg hc hr=>exact⟨_,_,rfl,hcap,hg⟩
theorem RdP.src {P:Program} {w:World} {L:Nat->Nat} {rows:List (List V)} {g:Tag} {x:Value} {s:Nat} {tx e:TypeId} (r:RdP w L (.sl g rows) x) (hk:P.underlying tx=some (.slice e)) (_hs:0<s) (hu:uni s rows):
  ∃news,Src P s tx x rows.length news w/\All2 (RdP w L) rows.flatten news:=by
 by_cases hne:rows= []
 .subst hne
  obtain⟨a,cap,rfl,_,_⟩:=r.len
  cases a with
  |none=>exact⟨[],Src.ofNil w hk cap,trivial⟩
  |some a=>exact⟨[],Src.ofSlice w hk a 0 cap [] (by simp) (fun j u h=>by simp at h) (fun _ h=>by cases h),trivial⟩
 .obtain⟨s',b,o,cap,rfl,hs',hu',hlim,hcap,_,hc⟩:=r.flat hne
  have hss:s'=s:=by
   obtain⟨r0,rest,rfl⟩:=D4 hne
   rw[<-hu' r0 (by simp),hu r0 (by simp)]
  subst hss
  have hfl:=yA hu'
  let f:=fun k=>(w.cell? ⟨b,o+k,none⟩).getD undef
  have hall:All2 (RdP w L) rows.flatten ((List.range (rows.length*s')).map f):=by
   refine All2.of (by simp[hfl]) fun k v y hv hy=> ?_
   obtain⟨z,hz,rz⟩:=hc k v hv
   rw[Az]at hy
   cases hr:(List.range (rows.length*s'))[k]? with
   |none=>rw[hr]at hy;simp at hy
   |some q=>
    rw[hr]at hy
    obtain⟨hq1,hq2⟩:=A1.1 hr
    simp at hq2
    subst hq2
    simp only[B3,Option.some.injEq]at hy
    subst hy
    simpa[f,hz]using rz
  refine⟨(List.range (rows.length*s')).map f,Src.ofSlice w hk ⟨b,o,none⟩ rows.length cap _ (by simp) (fun j u hj=> ?_) (fun u hu=> ?_),hall⟩
  .rw[Az]at hj
   have hjl:j<rows.length*s':=by
    rcases Cf j (rows.length*s')with h|h
    .exact h
    .rw[Bc (by simpa using h)]at hj;simp at hj
   rw[A0 (by simpa using hjl)]at hj
   simp only[List.getElem_range,B3,Option.some.injEq]at hj
   obtain⟨z,hz,_⟩:=hc j _ (A0 (by rw[hfl];exact hjl))
   rw[xS,<-hj]
   simp[f,hz]
  .obtain⟨k,hk,rfl⟩:=Ac.1 hu
   have hkl:k<rows.length*s':=by simpa using hk
   obtain⟨z,hz,rz⟩:=hc k _ (A0 (by rw[hfl];exact hkl))
   simpa[f,hz]using rz.oneCell
def zP (bs:List UInt8):List (List V):=bs.map fun b=> [.int .u8 b.toNat]
theorem zN3 (bs:List UInt8):uni 1 (zP bs):=fun r hr=>by
 obtain⟨b,_,rfl⟩:=Ac.1 hr;rfl
theorem zo6 {w:World} {L:Nat->Nat} (bs:List UInt8):All2 (RdP w L) (zP bs).flatten (byteCells ⟨bs.toArray⟩):=by
 unfold zP byteCells
 show All2 _ _ (bs.map _)
 induction bs with
 |nil=>trivial
 |cons b bs ih=>exact⟨.int _ _,ih⟩
theorem zb6 {s:Nat} {a b:List (List V)} (ha:uni s a) (hb:uni s b):uni s (a++b):=fun r hr=>by
 rcases B4.1 hr with h|h
 .exact ha r h
 .exact hb r h
theorem RdP.of_row {w:World} {L:Nat->Nat} {rows:List (List V)} {s b o cap:Nat} {arr:Array Value} {T:TypeId} {fz:Nat×Nat} {xs:List Value} (hs:0<s) (hu:uni s rows) (hlim:o+rows.length*s<=L b) (hcap:rows.length<=cap)
  {g:Tag} (ha: ∀id,g≠ .app id) (hg:g= .full->cap=rows.length)
  (hh:w.heap[b]? =some (.cells arr T fz)) (hx: ∀(k:Nat) x,xs[k]? =some x->arr[o+k]? =some x) (h:All2 (RdP w L) rows.flatten xs):RdP w L (.sl g rows) (.slice (some ⟨b,o,none⟩) rows.length cap):=by
 refine .of_flat hs hu hlim hcap ha hg fun k v hv=> ?_
 obtain⟨x,hx',r⟩:=h.get k v hv
 exact⟨x,by simp[World.cell?,hh];exact hx k x hx',r⟩
section
variable {c:Ctx} {w:World} {L:Nat->Nat} {σ:St} {β:List Value}
theorem yJ7 (arr:Array Value) (k:Nat) (xs:List Value) (h:k+xs.length<=arr.size) (i:Nat) (x:Value) (hx:xs[i]? =some x):(xF arr k xs)[k+i]? =some x:=by
 have hi:i<xs.length:=(A1.1 hx).1
 rw[ze7 _ _ _ _ h,if_pos (by omega),show k+i - k=i by omega];exact hx
theorem zW4 (arr:Array Value) (k:Nat) (xs:List Value) (h:k+xs.length<=arr.size) (i:Nat) (hi:i<k):(xF arr k xs)[i]? =arr[i]? :=by
 rw[ze7 _ _ _ _ h,if_neg (by omega)]
theorem Mem.appIn (h:Mem c w L σ β) {i n s cap b o:Nat} {rows rows2:List (List V)} {xs:List Value} (hi:σ[i]? =some (.app n s)) (hβ:β[i]? =some (.slice (some ⟨b,o,none⟩) n cap))
  (hn:rows.length=n) (hr:RdP w L (.sl .ro rows) (.slice (some ⟨b,o,none⟩) n cap)) (hur:uni s rows) (hu:uni s rows2) (hx:All2 (RdP w L) rows2.flatten xs) (hpos:0<rows2.length) (hroom:n+rows2.length<=cap):
  ∃arr T fz,w.heap[b]? =some (.cells arr T fz)/\zq3 arr fz/\o+n*s+xs.length<=arr.size/\
   Mem c (yK w b (.cells (xF arr (o+n*s) xs) T fz)) (yY L b (o+(n+rows2.length)*s)) (σ.set i (.app (n+rows2.length) s)) (β.set i (.slice (some ⟨b,o,none⟩) (n+rows2.length) cap))/\
   Le w L (yK w b (.cells (xF arr (o+n*s) xs) T fz)) (yY L b (o+(n+rows2.length)*s))/\
   Ext σ β (σ.set i (.app (n+rows2.length) s)) (β.set i (.slice (some ⟨b,o,none⟩) (n+rows2.length) cap))/\
   RdP (yK w b (.cells (xF arr (o+n*s) xs) T fz)) (yY L b (o+(n+rows2.length)*s)) (.sl .ro (rows++rows2)) (.slice (some ⟨b,o,none⟩) (n+rows2.length) cap):=by
 obtain⟨a,cap',e,hncap,hs,hok⟩:=h.objs i _ _ hi hβ
 cases e
 obtain⟨b',o',arr,T,fz,e,hh,hf,hsz,hL⟩:=hok (by omega)
 cases e
 have hlt:b<w.heap.size:=(Ap.1 hh).1
 have hxl:xs.length=rows2.length*s:=by rw[<-hx.length,yA hu]
 have hmul:(n+rows2.length)*s=n*s+rows2.length*s:=An _ _ _
 have hcm:(n+rows2.length)*s<=cap*s:=Ao _ hroom
 have hfit:o+n*s+xs.length<=arr.size:=by omega
 have hle:Le w L (yK w b (.cells (xF arr (o+n*s) xs) T fz)) (yY L b (o+(n+rows2.length)*s)):=by
  refine⟨fun k=> ?_,fun k q hq=> ?_⟩
  .by_cases e:k=b
   .subst e;simp[yY];omega
   .simp[yY,e]
  .by_cases e:k=b
   .subst e
    simp only[World.cell?,xN _ _ _ hlt,hh]
    rw[zW4 _ _ _ hfit _ (by omega)]
   .exact za9 (zc9 w b k _ e) q
 have hne:rows2.length≠0:=by omega
 have hext:Ext σ β (σ.set i (.app (n+rows2.length) s)) (β.set i (.slice (some ⟨b,o,none⟩) (n+rows2.length) cap)):=by
  refine⟨fun id a e=> ?_,fun id n0 s0 e=> ?_,fun id r0 s0 e=> ?_,fun id e=> ?_⟩
  .have:i≠id:=fun q=>by subst q;rw[hβ]at e;simp at e
   rw[Ad this];exact e
  .by_cases q:i=id
   .subst q
    rw[hi]at e;cases e
    exact⟨n+rows2.length,by rw[Ak (A1.1 hi).1],by omega,fun e=>by omega⟩
   .exact⟨n0,by rw[Ad q];exact e,A2 _,fun _=>by rw[Ad q]⟩
  .have q:i≠id:=fun q=>by subst q;rw[hi]at e;cases e
   exact .inr ⟨r0,by rw[Ad q];exact e,A2 _,fun _=>by rw[Ad q]⟩
  .have q:i≠id:=fun q=>by subst q;rw[hi]at e;cases e
   rw[Ad q];exact e
 refine⟨arr,T,fz,hh,hf,hfit, ?_,hle,hext, ?_⟩
 .refine h.upd i _ _ hle hext (fun k=>k=b) (fun j o' x' k hj ho' hx' hk e=>by subst e;exact h.apart j i o' _ x' _ k hj ho' hx' hi hβ hk (by simp[excl];omega))
   (fun k e=>by subst e;exact h.mine i _ _ k hi hβ (by simp[excl];omega)) (fun k hk=>⟨zc9 w b k _ hk,by simp[yY,hk]⟩) (by simp[yK]) rfl rfl rfl (fun k hk=> ?_) ?_ (fun k hk=> ?_)
  .simp only[yY];rw[if_neg (by omega)];exact h.lim k hk
  .refine⟨_,cap,rfl,hroom,hs,fun hl=>⟨b,o,_,T,fz,rfl,xN _ _ _ hlt,fun q hq=>hf q (by rw[xG]at hq;exact hq),by rw[xG];exact hsz,by simp[yY]⟩⟩
  .simp[excl]at hk;exact hk.2.symm
 .have hlen:(rows++rows2).length=n+rows2.length:=by simp[hn]
  have e:Value.slice (some ⟨b,o,none⟩) (n+rows2.length) cap=Value.slice (some ⟨b,o,none⟩) (rows++rows2).length cap:=by rw[hlen]
  rw[e]
  refine .of_flat hs (zb6 hur hu) (by rw[hlen];simp[yY]) (by omega) (fun _=>by simp) (fun e=>by simp at e) fun k v hk=> ?_
  rw[Bx]at hk
  have hfl:=yA hur
  simp only[World.cell?,xN _ _ _ hlt]
  by_cases hkn:k<rows.flatten.length
  .rw[Ab hkn]at hk
   have hne':rows≠ []:=fun e=>by subst e;simp at hkn
   obtain⟨s',b',o',cap',e,_,hu',_,_,_,hcell⟩:=hr.flat hne'
   cases e
   obtain⟨y,hy,ry⟩:=hcell k v hk
   refine⟨y, ?_,ry.mono hle⟩
   rw[hn]at hfl
   simp only[World.cell?,hh]at hy
   simp only[Option.isSome_none,Bf,if_false]at hy⊢
   rw[zW4 _ _ _ hfit _ (by omega)]
   exact hy
  .rw[Ai (by omega)]at hk
   obtain⟨y,hy,ry⟩:=hx.get _ _ hk
   refine⟨y, ?_,ry.mono hle⟩
   have:=yJ7 arr (o+n*s) xs hfit _ y hy
   rw[hn]at hfl
   simp only[Option.isSome_none,Bf,if_false]
   rw[show o+n*s+(k - rows.flatten.length)=o+k by omega]at this
   exact this
theorem Mem.appNew (h:Mem c w L σ β) {i n s cap:Nat} {rows:List (List V)} {arr:Array Value} {T:TypeId} {xs:List Value} {x0:Value} (hi:σ[i]? =some (.app n s)) (hβ:β[i]? =some x0) (hs:0<s)
  (hu:uni s rows) (hx:All2 (RdP w L) rows.flatten xs) (hgt:n<rows.length) (hcap:rows.length<=cap) (hsz:cap*s<=arr.size) (hxs: ∀(k:Nat) x,xs[k]? =some x->arr[k]? =some x):
   Mem c (w.alloc (.cells arr T)) (yY L w.heap.size (rows.length*s)) (σ.set i (.app rows.length s)) (β.set i (.slice (some ⟨w.heap.size,0,none⟩) rows.length cap))/\
   Le w L (w.alloc (.cells arr T)) (yY L w.heap.size (rows.length*s))/\
   Ext σ β (σ.set i (.app rows.length s)) (β.set i (.slice (some ⟨w.heap.size,0,none⟩) rows.length cap))/\
   RdP (w.alloc (.cells arr T)) (yY L w.heap.size (rows.length*s)) (.sl .ro rows) (.slice (some ⟨w.heap.size,0,none⟩) rows.length cap):=by
 obtain⟨h1,hle⟩:=h.alloc (.cells arr T) (rows.length*s)
 have hnp: ∀a,x0≠ .pointer a:=by
  intro a e;subst e
  obtain⟨_,_,e,_⟩:=h.objs i _ _ hi hβ
  cases e
 have hext:Ext σ β (σ.set i (.app rows.length s)) (β.set i (.slice (some ⟨w.heap.size,0,none⟩) rows.length cap)):=by
  refine⟨fun id a e=> ?_,fun id n0 s0 e=> ?_,fun id r0 s0 e=> ?_,fun id e=> ?_⟩
  .have:i≠id:=fun q=>by subst q;rw[hβ]at e;cases e;exact hnp _ rfl
   rw[Ad this];exact e
  .by_cases q:i=id
   .subst q
    rw[hi]at e;cases e
    exact⟨rows.length,by rw[Ak (A1.1 hi).1],by omega,fun e=>by omega⟩
   .exact⟨n0,by rw[Ad q];exact e,A2 _,fun _=>by rw[Ad q]⟩
  .have q:i≠id:=fun q=>by subst q;rw[hi]at e;cases e
   exact .inr ⟨r0,by rw[Ad q];exact e,A2 _,fun _=>by rw[Ad q]⟩
  .have q:i≠id:=fun q=>by subst q;rw[hi]at e;cases e
   rw[Ad q];exact e
 refine⟨?_,hle,hext, ?_⟩
 .refine h1.upd i _ _ (Le.refl _ _) hext (fun k=>k=w.heap.size) (fun j o' x' k hj ho' hx' hk e=> ?_) (fun k e=>by subst e;exact .inl h.size) (fun k _=>⟨rfl,rfl⟩) rfl rfl rfl rfl h1.lim ?_ (fun k hk=> ?_)
  .have:=(h.objs j o' x' ho' hx').excl_lt hk;omega
  .refine⟨_,cap,rfl,hcap,hs,fun hl=>⟨_,0,_,T,(0,0),rfl,yH _ _,fun q _ hq=>by simp at hq,by omega,by simp[yY]⟩⟩
  .simp[excl]at hk;exact hk.2.symm
 .exact .of_row hs hu (by simp[yY]) hcap (fun _=>by simp) (fun e=>by simp at e) (yH _ _) (fun k x hk=>by rw[Aa];exact hxs k x hk) (hx.imp fun _ _=>RdP.mono hle)
theorem Mem.appPush (h:Mem c w L σ β) {s cap:Nat} {rows:List (List V)} {arr:Array Value} {T:TypeId} {xs:List Value} (hs:0<s)
  (hu:uni s rows) (hx:All2 (RdP w L) rows.flatten xs) (hcap:rows.length<=cap) (hsz:cap*s<=arr.size) (hxs: ∀(k:Nat) x,xs[k]? =some x->arr[k]? =some x):
   Mem c (w.alloc (.cells arr T)) (yY L w.heap.size (rows.length*s)) (σ++ [.app rows.length s]) (β++ [.slice (some ⟨w.heap.size,0,none⟩) rows.length cap])/\
   Le w L (w.alloc (.cells arr T)) (yY L w.heap.size (rows.length*s))/\
   RdP (w.alloc (.cells arr T)) (yY L w.heap.size (rows.length*s)) (.sl .ro rows) (.slice (some ⟨w.heap.size,0,none⟩) rows.length cap):=by
 obtain⟨h1,hle⟩:=h.alloc (.cells arr T) (rows.length*s)
 refine⟨?_,hle, ?_⟩
 .refine h1.push _ _ ⟨_,cap,rfl,hcap,hs,fun hl=>⟨_,0,_,T,(0,0),rfl,yH _ _,fun q _ hq=>by simp at hq,by omega,by simp[yY]⟩⟩ (fun j o' x' k ho' hx' hk e=> ?_) (fun k hk=> ?_)
  .have:=(h.objs j o' x' ho' hx').excl_lt hk
   simp[excl]at e
   omega
  .simp[excl]at hk
   rw[<-hk.2];exact .inl h.size
 .exact .of_row hs hu (by simp[yY]) hcap (fun _=>by simp) (fun e=>by simp at e) (yH _ _) (fun k x hk=>by rw[Aa];exact hxs k x hk) (hx.imp fun _ _=>RdP.mono hle)
theorem Mem.own (h:Mem c w L σ β) {s n:Nat} {a:Option Addr} (hs:0<s):Mem c w L (σ++ [.app n s]) (β++ [.slice a n n]):=by
 refine h.push _ _ ⟨a,n,rfl,A2 _,hs,fun hl=>by omega⟩ (fun j o' x' k _ _ _=> ?_) (fun k hk=> ?_)
 .cases a<;>simp[excl]
 .cases a<;>simp[excl]at hk
theorem ym0 (cells vs:List V) (off i:Nat) (h:off<=cells.length):(putCells cells off vs)[i]? =if off<=i/\i<off+vs.length then vs[i - off]? else cells[i]? :=by
 unfold putCells
 have ht:(cells.take off).length=off:=by simp;omega
 by_cases h1:i<off
 .rw[if_neg (by omega),C5,Ab (by omega),Ae,if_pos h1]
 .by_cases h2:i<off+vs.length
  .rw[if_pos (by omega),Ab (by simp;omega),Ai (by omega),ht]
  .rw[if_neg (by omega),Ai (by simp;omega)]
   simp only[Aw,ht,B0]
   congr 1;omega
theorem zT3 (cells vs:List V) (off:Nat) (h:off<=cells.length):(putCells cells off vs).length=max cells.length (off+vs.length):=by
 simp[putCells];omega
theorem Ext.setLst {i s:Nat} {rows rows2:List (List V)} {x y:Value} (hi:σ[i]? =some (.lst rows s)) (hl:β.length=σ.length) (hβ:β[i]? =some x) (hx: ∀a,x≠ .pointer a) (hge:rows.length<=rows2.length) (hsame:rows2.length=rows.length->y=x):
  Ext σ β (σ.set i (.lst rows2 s)) (β.set i y):=by
 have hlt:i<σ.length:=(A1.1 hi).1
 refine⟨fun id a e=> ?_,fun id n0 s0 e=> ?_,fun id r0 s0 e=> ?_,fun id e=> ?_⟩
 .have:i≠id:=fun q=>by subst q;rw[hβ]at e;cases e;exact hx _ rfl
  rw[Ad this];exact e
 .have q:i≠id:=fun q=>by subst q;rw[hi]at e;cases e
  exact⟨n0,by rw[Ad q];exact e,A2 _,fun _=>by rw[Ad q]⟩
 .by_cases q:i=id
  .subst q
   rw[hi]at e;cases e
   exact .inr ⟨rows2,by rw[Ak hlt],hge,fun e=>by rw[Ak (by omega),hsame e,hβ]⟩
  .exact .inr ⟨r0,by rw[Ad q];exact e,A2 _,fun _=>by rw[Ad q]⟩
 .have q:i≠id:=fun q=>by subst q;rw[hi]at e;cases e
  rw[Ad q];exact e
theorem Mem.lstPut (h:Mem c w L σ β) {i s cap b off n:Nat} {rows rows2:List (List V)} {vs:List V} {xs:List Value} (hi:σ[i]? =some (.lst rows s)) (hβ:β[i]? =some (.slice (some ⟨b,0,none⟩) n cap)) (hcap:0<cap)
  (hv:All2 (RdC w L σ β) vs xs) (hoff:off<=rows.length*s) (hu2:uni s rows2) (hr:rows2.flatten=putCells rows.flatten off vs) (hge:rows.length<=rows2.length) (hle2:rows2.length<=cap):
  ∃arr T fz,w.heap[b]? =some (.cells arr T fz)/\zq3 arr fz/\off+xs.length<=arr.size/\
   Mem c (yK w b (.cells (xF arr off xs) T fz)) L (σ.set i (.lst rows2 s)) (β.set i (.slice (some ⟨b,0,none⟩) rows2.length cap))/\
   Le w L (yK w b (.cells (xF arr off xs) T fz)) L/\
   Ext σ β (σ.set i (.lst rows2 s)) (β.set i (.slice (some ⟨b,0,none⟩) rows2.length cap)):=by
 obtain⟨a,cap',e,hncap,hs,hu,hok⟩:=h.objs i _ _ hi hβ
 cases e
 obtain⟨b',arr,T,fz,e,hh,hf,hsz,hL,hall⟩:=hok hcap
 cases e
 have hlt:b<w.heap.size:=(Ap.1 hh).1
 have hil:i<σ.length:=(A1.1 hi).1
 have hfl:=yA hu
 have hfl2:=yA hu2
 have hxl:=hv.length
 have hlen2:rows2.length*s=max (rows.length*s) (off+vs.length):=by rw[<-hfl2,hr,zT3 _ _ _ (by omega),hfl]
 have hcm:rows2.length*s<=cap*s:=Ao _ hle2
 have hfit:off+xs.length<=arr.size:=by omega
 have hle:Le w L (yK w b (.cells (xF arr off xs) T fz)) L:=by
  refine⟨fun k=>A2 _,fun k q hq=> ?_⟩
  by_cases e:k=b
  .subst e;rw[hL]at hq;omega
  .exact za9 (zc9 w b k _ e) q
 have hext:Ext σ β (σ.set i (.lst rows2 s)) (β.set i (.slice (some ⟨b,0,none⟩) rows2.length cap)):=
  Ext.setLst hi h.len hβ (fun a e=>by cases e) hge fun e=>by rw[e]
 refine⟨arr,T,fz,hh,hf.1,hfit, ?_,hle,hext⟩
 refine h.upd i _ _ hle hext (fun k=>k=b) (fun j o' x' k hj ho' hx' hk e=>by subst e;exact h.apart j i o' _ x' _ k hj ho' hx' hi hβ hk (by simp[excl,hcap]))
   (fun k e=>by subst e;exact h.mine i _ _ k hi hβ (by simp[excl,hcap])) (fun k hk=>⟨zc9 w b k _ hk,rfl⟩) (by simp[yK]) rfl rfl rfl h.lim ?_ (fun k hk=> ?_)
 .refine⟨_,cap,rfl,hle2,hs,hu2,fun _=>⟨b,_,T,fz,rfl,xN _ _ _ hlt,hf.size (by rw[xG]),by rw[xG];exact hsz,hL, ?_⟩⟩
  refine All2.of ?_ fun k p y hp hy=> ?_
  .have hs2:(xF arr off xs).toList.length=arr.size:=by simp[xG]
   rw[hfl2,C2,hs2];omega
  .have hkl:k<rows2.length*s:=by rw[<-hfl2];exact(A1.1 hp).1
   rw[Ae,if_pos hkl,Aj,ze7 _ _ _ _ hfit]at hy
   rw[hr,ym0 _ _ _ _ (by omega)]at hp
   by_cases hin:off<=k/\k<off+vs.length
   .rw[if_pos hin]at hp
    rw[if_pos (by omega)]at hy
    obtain⟨z,hz,r⟩:=hv.get _ _ hp
    rw[hy]at hz;cases hz
    exact r.mono hle hext
   .rw[if_neg hin]at hp
    rw[if_neg (by omega)]at hy
    obtain⟨z,hz,r⟩:=hall.get _ _ hp
    have hk1:k<rows.length*s:=by rw[<-hfl];exact(A1.1 hp).1
    rw[Ae,if_pos hk1,Aj,hy]at hz;cases hz
    exact r.mono hle hext
 .simp[excl,hcap]at hk;exact hk.symm
theorem zC9 (h:Mem c w L σ β):yY L w.heap.size 0=L:=by
 funext k
 by_cases hk:k=w.heap.size
 .subst hk;simp[yY,h.lim _ (A2 _)]
 .simp[yY,hk]
theorem Mem.lstPush (h:Mem c w L σ β) {s cap:Nat} {rows:List (List V)} {arr:Array Value} {T:TypeId} (hs:0<s)
  (hu:uni s rows) (hx:All2 (RdC w L σ β) rows.flatten (arr.toList.take (rows.length*s))) (hcap:rows.length<=cap) (hsz:cap*s<=arr.size):
   Mem c (w.alloc (.cells arr T)) L (σ++ [.lst rows s]) (β++ [.slice (some ⟨w.heap.size,0,none⟩) rows.length cap])/\
   Le w L (w.alloc (.cells arr T)) L/\Ext σ β (σ++ [.lst rows s]) (β++ [.slice (some ⟨w.heap.size,0,none⟩) rows.length cap]):=by
 have h1:=h.alloc (.cells arr T) 0
 rw[zC9 h]at h1
 have hext:=Ext.push σ β h.len (.lst rows s) (.slice (some ⟨w.heap.size,0,none⟩) rows.length cap)
 refine⟨h1.1.push _ _ ⟨_,cap,rfl,hcap,hs,hu,fun _=>⟨_,arr,T,(0,0),rfl,yH _ _,zX0 _ _,hsz,h.lim _ (A2 _),hx.imp fun _ _=>RdC.mono h1.2 hext⟩⟩ (fun j o' x' k ho' hx' hk e=> ?_) (fun k hk=> ?_),h1.2,hext⟩
 .have:=(h.objs j o' x' ho' hx').excl_lt hk
  simp[excl]at e
  omega
 .simp[excl]at hk
  rw[<-hk.2];exact .inl h.size
theorem Mem.lstPushF (h:Mem c w L σ β) {s cap:Nat} {rows:List (List V)} {arr:Array Value} {T:TypeId} {fz:Nat×Nat} (hfz:unfrozenL s arr fz) (hs:0<s)
  (hu:uni s rows) (hx:All2 (RdC w L σ β) rows.flatten (arr.toList.take (rows.length*s))) (hcap:rows.length<=cap) (hsz:cap*s<=arr.size):
   Mem c (w.alloc (.cells arr T fz)) L (σ++ [.lst rows s]) (β++ [.slice (some ⟨w.heap.size,0,none⟩) rows.length cap])/\
   Le w L (w.alloc (.cells arr T fz)) L/\Ext σ β (σ++ [.lst rows s]) (β++ [.slice (some ⟨w.heap.size,0,none⟩) rows.length cap]):=by
 have h1:=h.alloc (.cells arr T fz) 0
 rw[zC9 h]at h1
 have hext:=Ext.push σ β h.len (.lst rows s) (.slice (some ⟨w.heap.size,0,none⟩) rows.length cap)
 refine⟨h1.1.push _ _ ⟨_,cap,rfl,hcap,hs,hu,fun _=>⟨_,arr,T,fz,rfl,yH _ _,hfz,hsz,h.lim _ (A2 _),hx.imp fun _ _=>RdC.mono h1.2 hext⟩⟩ (fun j o' x' k ho' hx' hk e=> ?_) (fun k hk=> ?_),h1.2,hext⟩
 .have:=(h.objs j o' x' ho' hx').excl_lt hk
  simp[excl]at e
  omega
 .simp[excl]at hk
  rw[<-hk.2];exact .inl h.size
theorem Mem.lstNil (h:Mem c w L σ β) {s:Nat} {a:Option Addr} (hs:0<s):Mem c w L (σ++ [.lst [] s]) (β++ [.slice a 0 0]):=by
 refine h.push _ _ ⟨a,0,rfl,A2 _,hs,fun r hr=>(by cases hr),fun hl=>by omega⟩ (fun j o' x' k _ _ _=> ?_) (fun k hk=> ?_)
 .cases a<;>simp[excl]
 .cases a<;>simp[excl]at hk
theorem Mem.lstRe (h:Mem c w L σ β) {i s cap:Nat} {rows rows2:List (List V)} {arr:Array Value} {T:TypeId} {x0:Value} (hi:σ[i]? =some (.lst rows s)) (hβ:β[i]? =some x0) (hs:0<s)
  (hu:uni s rows2) (hx:All2 (RdC w L σ β) rows2.flatten (arr.toList.take (rows2.length*s))) (hgt:rows.length<rows2.length) (hcap:rows2.length<=cap) (hsz:cap*s<=arr.size):
   Mem c (w.alloc (.cells arr T)) L (σ.set i (.lst rows2 s)) (β.set i (.slice (some ⟨w.heap.size,0,none⟩) rows2.length cap))/\
   Le w L (w.alloc (.cells arr T)) L/\
   Ext σ β (σ.set i (.lst rows2 s)) (β.set i (.slice (some ⟨w.heap.size,0,none⟩) rows2.length cap)):=by
 obtain⟨h1,hle⟩:=h.alloc (.cells arr T) 0
 rw[zC9 h]at h1 hle
 have hext:Ext σ β (σ.set i (.lst rows2 s)) (β.set i (.slice (some ⟨w.heap.size,0,none⟩) rows2.length cap)):=
  Ext.setLst hi h.len hβ (fun a e=>by
   subst e
   obtain⟨_,_,e,_⟩:=h.objs i _ _ hi hβ
   cases e) (by omega) (fun e=>by omega)
 refine⟨?_,hle,hext⟩
 refine h1.upd i _ _ (Le.refl _ _) hext (fun k=>k=w.heap.size) (fun j o' x' k hj ho' hx' hk e=> ?_) (fun k e=>by subst e;exact .inl h.size) (fun k _=>⟨rfl,rfl⟩) rfl rfl rfl rfl h1.lim ?_ (fun k hk=> ?_)
 .have:=(h.objs j o' x' ho' hx').excl_lt hk;omega
 .exact⟨_,cap,rfl,hcap,hs,hu,fun _=>⟨_,arr,T,(0,0),rfl,yH _ _,zX0 _ _,hsz,h.lim _ (A2 _),hx.imp fun _ _=>RdC.mono hle hext⟩⟩
 .simp[excl]at hk;exact hk.2.symm
end
structure Sim (c:Ctx) (nt:Nat) (e:Env) (σ:St) (a:Act) (w:World) (L:Nat->Nat) (β:List Value):Prop where
 mem:Mem c w L σ β
 size:a.tmps.size=nt
 defs:a.defers= []
 env: ∀t,RdS w L σ β (e t) (a.tmps.getD t undef)
def zc1:Value->V
 | .bool b=> .bool b
 | .int k n=> .int k n
 | .string s=> .str s.data.toList
 | .pointer none=> .nilp
 | .slice none 0 0=> .sl .full []
 | .agg _=> .u
 | .tuple _=> .u
 |v=> .raw v
def yW2 (g:Nat):V:=match tabs.find? (fun p=>p.1==g)with
 |some p=> .elp p.2 0
 |none=> .u
def zF (e:Env):Operand->V
 | .tmp t=>e t
 | .const v=>zc1 v
 | .func f=> .fn f []
 | .global g=>yW2 g
def zG1:V->Bool
 | .u| .agg _| .tup _=>false
 |_=>true
theorem xt4 {w:World} {L:Nat->Nat} {σ:St} {β:List Value} (v:Value):RdS w L σ β (zc1 v) v:=by
 unfold zc1
 split
 .exact RdP.bool _
 .exact RdP.int _ _
 .rename_i s
  have:RdP w L (.str s.data.toList) (.string ⟨s.data.toList.toArray⟩):= .str _
  exact this
 .exact RdP.nilp
 .exact RdP.sl0 _ _ _ (fun _=>rfl) (fun _=>by simp)
 .trivial
 .trivial
 .rename_i h1 h2 h3 h4 h5 h6 h7
  refine RdP.raw v ?_
  cases v<;>first|rfl|exact(h6 _ rfl).elim|exact(h7 _ rfl).elim
theorem zu7 {w:World} {L:Nat->Nat} (v:Value) (h1:v.oneCell'=true):RdP w L (zc1 v) v/\zG1 (zc1 v)=true:=by
 unfold zc1
 split
 .exact⟨RdP.bool _,rfl⟩
 .exact⟨RdP.int _ _,rfl⟩
 .rename_i s
  have:RdP w L (.str s.data.toList) (.string ⟨s.data.toList.toArray⟩):= .str _
  exact⟨this,rfl⟩
 .exact⟨RdP.nilp,rfl⟩
 .exact⟨RdP.sl0 _ _ _ (fun _=>rfl) (fun _=>by simp),rfl⟩
 .simp[Value.oneCell']at h1
 .simp[Value.oneCell']at h1
 .exact⟨RdP.raw _ h1,rfl⟩
theorem Sim.eval {c:Ctx} {nt:Nat} {e:Env} {σ:St} {a:Act} {w:World} {L:Nat->Nat} {β:List Value} (h:Sim c nt e σ a w L β) (x:Operand):RdS w L σ β (zF e x) (a.eval x):=by
 cases x with
 |tmp t=>exact h.env t
 |const v=>exact xt4 v
 |func f=>exact⟨[],rfl,trivial⟩
 |global g=>
  show RdS w L σ β (yW2 g) _
  unfold yW2
  split
  .rename_i p hp
   have hm:=List.mem_of_find?_eq_some hp
   have hg:p.1=g:=by simpa using List.find?_some hp
   have hr:=((h.mem.tab.tab p hm).mono h.mem.le).rd (σ:=σ) (β:=β)
   rw[hg]at hr
   exact hr
  .trivial
inductive R where
 |fail
 |ok (v:V)
 |need (p:Prop) (v:V)
 |st (v:V) (σ:St)
 |needst (p:Prop) (v:V) (σ:St)
 |all (f:Bool->V)
 |any (l:List (V×St))
section tables
variable (P:Program)
def szT (t:TypeId):Option Nat:=(P.info? t).map (·.size)
def yO4:TypeDesc->Bool
 | .struct _| .array _ _=>true
 |_=>false
def aggT (t:TypeId):Option Bool:=(P.underlying t).map yO4
def fldT (t:TypeId) (f:Nat):Option (Nat×Nat×Bool):=
 match P.underlying t with
 |some (.struct fs)=>(fs[f]?).bind fun f=>(szT P f.type).bind fun s=>(aggT P f.type).bind fun b=>if s=0 then none else some (f.offset,s,b)
 |_=>none
def slcT (t:TypeId):Option Nat:=
 match P.underlying t with
 |some (.slice e)=>szT P e
 |_=>none
def arrT (t:TypeId):Option (Nat×Nat×Bool):=
 match P.underlying t with
 |some (.array n e)=>(szT P e).bind fun s=>(aggT P e).map fun b=>(n,s,b)
 |_=>none
def za1 (t:TypeId):Option (List V):=(P.info? t).bind fun i=>(i.zero).bind fun z=>if z.cells.all (·.oneCell')=true then some (z.cells.toList.map zc1)else none
def elT (t:TypeId):Option (Nat×Nat):=
 match P.underlying t with
 |some (.slice e)=>(P.info? e).bind fun i=>i.zero.bind fun z=>if z.cells.size=i.size/\0<i.size/\0<i.bytes then some (i.size,i.bytes)else none
 |_=>none
inductive Kd where
 |int (k:IntKind)|str|bytes|other
 deriving DecidableEq
def kdT (t:TypeId):Option Kd:=
 match P.underlying t with
 |some (.int k)=>some (.int k)
 |some .string=>some .str
 |some (.slice e)=>(match P.underlying e with|some (.int .u8)=>some .bytes|_=>some .other)
 |some _=>some .other
 |none=>none
end tables
def zg3:V->Bool
 | .bool _| .int _ _| .str _| .raw _| .nilp| .sl _ _=>true
 |_=>false
def dem:V->V
 | .sl _ rows=> .sl .ro rows
 |v=>v
def xD:V->List V
 | .agg cs=>cs
 |v=> [v]
theorem RdP.weak {w:World} {L:Nat->Nat} {g:Tag} {rows:List (List V)} {x:Value} (r:RdP w L (.sl g rows) x):RdP w L (.sl .ro rows) x:=by
 cases r with
 |sl0 _ a cap hg ha=>exact .sl0 _ a cap (fun e=>by cases e) (fun _=>by simp)
 |sl _ _ s b o cap c ha hs hlen hlim hcap hg hc hr=>exact .sl _ rows s b o cap c (fun _=>by simp) hs hlen hlim hcap (fun e=>by cases e) hc hr
theorem RdC.dem {w:World} {L:Nat->Nat} {σ:St} {β:List Value} {v:V} {x:Value} (r:RdC w L σ β v x) (h:zg3 v=true):RdP w L (dem v) x:=by
 cases v with
 |sl g rows=>cases g with
  |ro=>exact r
  |full=>exact RdP.weak r
  |app id=>exact r.1
 |u=>simp[zg3]at h
 |ptr _ _=>simp[zg3]at h
 |elp _ _=>simp[zg3]at h
 |lsv _ _ _ _ _=>simp[zg3]at h
 |lsp _ _ _ _ _=>simp[zg3]at h
 |bsv _ _ _ _=>simp[zg3]at h
 |mp _=>simp[zg3]at h
 |fn _ _=>simp[zg3]at h
 |ifc _ _=>simp[zg3]at h
 |agg _=>simp[zg3]at h
 |tup _=>simp[zg3]at h
 |bool b=>exact r
 |int k n=>exact r
 |str s=>exact r
 |raw v=>exact r
 |nilp=>exact r
section inv
variable {w:World} {L:Nat->Nat} {σ:St} {β:List Value}
theorem zc8 {b:Bool} {x:Value} (r:RdS w L σ β (.bool b) x):x= .bool b:=by
 cases r;rfl
theorem yI {k:IntKind} {n:Int} {x:Value} (r:RdS w L σ β (.int k n) x):x= .int k n:=by
 cases r;rfl
theorem wK {s:List UInt8} {x:Value} (r:RdS w L σ β (.str s) x):x= .string ⟨s.toArray⟩:=by
 cases r;rfl
theorem yh8 {x:Value} (r:RdS w L σ β .nilp x):x= .pointer none:=by
 cases r;rfl
theorem zv1 {g:Tag} {rows:List (List V)} {x:Value} (r:RdS w L σ β (.sl g rows) x):RdP w L (.sl .ro rows) x:=by
 cases g with
 |ro=>exact r
 |full=>exact RdP.weak r
 |app id=>exact r.1
theorem xv7 {v:V} {x:Value} (r:RdS w L σ β v x) (h:zG1 v=true):RdC w L σ β v x:=by
 cases v<;>first|exact r|simp[zG1]at h
theorem zz1 {x:Value} (h:x.oneCell'=true):x.cells= #[x]:=by
 cases x<;>first|rfl|simp[Value.oneCell']at h
def wC:V->Bool
 | .u| .tup _=>false
 |_=>true
theorem zo2 {v:V} {x:Value} (r:RdS w L σ β v x) (h:wC v=true):All2 (RdC w L σ β) (xD v) x.cells.toList:=by
 by_cases hc:zG1 v=true
 .have r':=xv7 r hc
  rw[zz1 r'.oneCell]
  have:xD v= [v]:=by cases v<;>first|rfl|simp[zG1]at hc
  rw[this]
  exact⟨r',trivial⟩
 .cases v with
  |agg cs=>obtain⟨xs,rfl,h⟩:=r;exact h
  |u=>simp[wC]at h
  |tup vs=>simp[wC]at h
  |_=>simp[zG1]at hc
end inv
inductive Pk where
 |b
 |i (k:IntKind)
 |s
 deriving DecidableEq
def zz2 (P:Program) (sh:TypeId->Option (List Pk)):Nat->List Field->Option (List Pk)
 |_,[]=>some []
 |off,f::fs=>if f.name≠ "_" /\f.offset=off then(sh f.type).bind fun ks=>if szT P f.type=some ks.length then(zz2 P sh (off+ks.length) fs).map (ks++ ·)else none else none
def zs1 (P:Program):Nat->TypeId->Option (List Pk)
 |0,_=>none
 |d+1,t=>
  match P.underlying t,aggT P t with
  |some .bool,some false=>some [.b]
  |some (.int k),some false=>some [.i k]
  |some .string,some false=>some [.s]
  |some (.struct fs),some true=>if P.stoodInHeld t=false then zz2 P (zs1 P d) 0 fs.toList else none
  |_,_=>none
def eqPk:Pk->V->V->Option Bool
 | .b,.bool x,.bool y=>some (x==y)
 | .i k,.int k1 x,.int k2 y=>if k1=k/\k2=k then some (x==y)else none
 | .s,.str x,.str y=>some (x==y)
 |_,_,_=>none
def eqVs:List Pk->List V->List V->Option Bool
 | [],[],[]=>some true
 |k::ks,a::as,b::bs=>(eqPk k a b).bind fun r=>(eqVs ks as bs).map (r&& ·)
 |_,_,_=>none
def eqPx:Pk->Value->Value->Option Bool
 | .b,.bool x,.bool y=>some (x==y)
 | .i k,.int k1 x,.int k2 y=>if k1=k/\k2=k then some (x==y)else none
 | .s,.string x,.string y=>some (x==y)
 |_,_,_=>none
def eqXs:List Pk->List Value->List Value->Option Bool
 | [],[],[]=>some true
 |k::ks,a::as,b::bs=>(eqPx k a b).bind fun r=>(eqXs ks as bs).map (r&& ·)
 |_,_,_=>none
def eqS (P:Program) (t:TypeId):Option (List Pk):=match P.underlying t with|some (.struct _)=>if P.eqGuardType P.depth t=false then zs1 P 10 t else none|_=>none
section
variable {P:Program} {c:Ctx} {w:World} {L:Nat->Nat} {σ:St} {β:List Value}
theorem xy0 {t:TypeId} {s:Nat} (h:szT P t=some s): ∃i,P.info? t=some i/\i.size=s:=by
 unfold szT at h
 cases hi:P.info? t with
 |none=>simp[hi]at h
 |some i=>simp[hi]at h;exact⟨i,rfl,h⟩
theorem wR {t:TypeId} {s:Nat} (h:szT P t=some s) (w:World):(sizeOf t).run P w= .ok s w:=by
 obtain⟨i,hi,rfl⟩:=xy0 h
 simp[sizeOf,typeInfo,hi]
theorem zj8 {t:TypeId} {b:Bool} (h:aggT P t=some b) (w:World):(isAgg t).run P w= .ok b w:=by
 unfold aggT at h
 cases hu:P.underlying t with
 |none=>simp[hu]at h
 |some d=>
  simp[hu]at h
  subst h
  simp only[isAgg,Sem.run_bind,run_underlying hu,Result.andThen_ok,yO4]
  cases d<;>rfl
theorem yb4: ∀(ks:List Pk) (as bs:List Value) (r:Bool),eqXs ks as bs=some r->as.length=ks.length/\bs.length=ks.length
 | [],[],[],_,_=>⟨rfl,rfl⟩
 |k::ks,a::as,b::bs,r,h=>by
  unfold eqXs at h
  cases h1:eqPx k a b with
  |none=>rw[h1]at h;cases h
  |some r1=>
   rw[h1]at h
   simp only[As,B6]at h
   obtain⟨r2,h2,_⟩:=h
   have:=yb4 ks as bs r2 h2
   simp[this.1,this.2]
 | [],[],_::_,_,h=>by cases h
 | [],_::_,_,_,h=>by cases h
 |_::_,[],_,_,h=>by cases h
 |_::_,_::_,[],_,h=>by cases h
theorem zV3: ∀(ks ks':List Pk) (as bs:List Value) (r:Bool),eqXs (ks++ks') as bs=some r->
  ∃r1 r2,eqXs ks (as.take ks.length) (bs.take ks.length)=some r1/\eqXs ks' (as.drop ks.length) (bs.drop ks.length)=some r2/\r=(r1&&r2)
 | [],ks',as,bs,r,h=>⟨true,r,by simp[eqXs],by simpa using h,by simp⟩
 |k::ks,ks',a::as,b::bs,r,h=>by
  rw[Bo]at h
  unfold eqXs at h
  cases h1:eqPx k a b with
  |none=>rw[h1]at h;cases h
  |some r0=>
   rw[h1]at h
   simp only[As,B6]at h
   obtain⟨r',h2,rfl⟩:=h
   obtain⟨r1,r2,h3,h4,rfl⟩:=zV3 ks ks' as bs r' h2
   refine⟨r0&&r1,r2, ?_,by simpa using h4,by rw[Bool.and_assoc]⟩
   simp only[Ah,By,eqXs,h1,As,h3,B3]
 |_::_,_,[],_,_,h=>by cases h
 |_::_,_,_::_,[],_,h=>by cases h
theorem zS0: ∀(ks:List Pk) (vs ws:List V) (xs ys:List Value) (r:Bool),All2 (RdC w L σ β) vs xs->All2 (RdC w L σ β) ws ys->eqVs ks vs ws=some r->eqXs ks xs ys=some r
 | [],[],[],[],[],r,_,_,h=>h
 |k::ks,v::vs,v2::us,x::xs,y::ys,r,h1,h2,h=>by
  unfold eqVs at h
  cases hk:eqPk k v v2 with
  |none=>rw[hk]at h;cases h
  |some r0=>
   rw[hk]at h
   simp only[As,B6]at h
   obtain⟨r',h3,rfl⟩:=h
   have ih:=zS0 ks vs us xs ys r' h1.2 h2.2 h3
   have hp:eqPx k x y=some r0:=by
    have hx:=h1.1;have hy:=h2.1
    unfold eqPk at hk
    split at hk
    .cases hx;cases hy;exact hk
    .cases hx;cases hy;exact hk
    .cases hx;cases hy
     rename_i a b
     rw[<-hk]
     simp only[eqPx,Option.some.injEq]
     show(a.toArray==b.toArray)=(a==b)
     simp
    .cases hk
   simp only[eqXs,hp,As,ih,B3]
 | [],[],[],[],_::_,_,_,h2,_=>h2.elim
 | [],[],[],_::_,_,_,h1,_,_=>h1.elim
 | [],[],_::_,_,_,_,_,_,h=>by cases h
 | [],_::_,_,_,_,_,_,_,h=>by cases h
 |_::_,[],_,_,_,_,_,_,h=>by cases h
 |_::_,_::_,[],_,_,_,_,_,h=>by cases h
 |_::_,_::_,_::_,[],_,_,h1,_,_=>h1.elim
 |_::_,_::_,_::_,_::_,[],_,_,h2,_=>h2.elim
def zt8 (P:Program) (t:TypeId) (x:Value):Prop:=if aggT P t=some true then∃xs,x= .agg xs else x.oneCell'=true
theorem yr3 {t:TypeId} {ks:List Pk} {b:Bool} (hs:szT P t=some ks.length) (ha:aggT P t=some b) (h1:b=false->ks.length=1) (cs:Array Value) (off:Nat) (hl:off+ks.length<=cs.size) (hone: ∀x∈cs.toList,x.oneCell'=true):
  ∃x,(part t cs off).run P w= .ok x w/\zt8 P t x/\x.cells.toList=(cs.toList.drop off).take ks.length:=by
 cases b with
 |true=>
  refine⟨.agg (cs.extract off (off+ks.length)), ?_, ?_, ?_⟩
  .simp only[part,Sem.run_bind,zj8 ha,Result.andThen_ok,if_true,wR hs,Sem.run_pure]
  .unfold zt8;rw[if_pos ha];exact⟨_,rfl⟩
  .simp[Value.cells,Array.toList_extract,Dz]
 |false=>
  have hk:=h1 rfl
  have hlt:off<cs.size:=by omega
  refine⟨cs[off], ?_, ?_, ?_⟩
  .simp only[part,Sem.run_bind,zj8 ha,Result.andThen_ok,Bf,if_false,Ar hlt,Sem.run_pure]
  .unfold zt8
   rw[if_neg (by rw[ha];simp)]
   exact hone _ (by simp)
  .rw[zz1 (hone _ (by simp)),hk]
   rw[A6 (by simpa using hlt)]
   simp
theorem yD2 {d:Nat} {t:TypeId} {ks:List Pk} (h:zs1 P d t=some ks): ∃b,aggT P t=some b/\(b=false->ks.length=1):=by
 cases d with
 |zero=>cases h
 |succ d=>
  unfold zs1 at h
  split at h
  .rename_i ha;simp at h;subst h;exact⟨false,ha,fun _=>rfl⟩
  .rename_i ha;simp at h;subst h;exact⟨false,ha,fun _=>rfl⟩
  .rename_i ha;simp at h;subst h;exact⟨false,ha,fun _=>rfl⟩
  .rename_i ha;exact⟨true,ha,fun q=>by cases q⟩
  .cases h
theorem xO4 {x y:Value} {r:Bool} (h:eqPx .b x y=some r): ∃a b,x= .bool a/\y= .bool b/\r=(a==b):=by
 cases x<;>first|(simp[eqPx]at h;done)|skip
 cases y<;>first|(simp[eqPx]at h;done)|skip
 simp[eqPx]at h
 exact⟨_,_,rfl,rfl,h.symm⟩
theorem xO5 {k:IntKind} {x y:Value} {r:Bool} (h:eqPx (.i k) x y=some r): ∃a b,x= .int k a/\y= .int k b/\r=(a==b):=by
 cases x<;>first|(simp[eqPx]at h;done)|skip
 cases y<;>first|(simp[eqPx]at h;done)|skip
 simp[eqPx]at h
 obtain⟨⟨rfl,rfl⟩,h⟩:=h
 exact⟨_,_,rfl,rfl,h.symm⟩
theorem xO6 {x y:Value} {r:Bool} (h:eqPx .s x y=some r): ∃a b,x= .string a/\y= .string b/\r=(a==b):=by
 cases x<;>first|(simp[eqPx]at h;done)|skip
 cases y<;>first|(simp[eqPx]at h;done)|skip
 simp only[eqPx,Option.some.injEq]at h
 exact⟨_,_,rfl,rfl,h.symm⟩
theorem zG8: ∀(d:Nat) (t:TypeId) (ks:List Pk),zs1 P d t=some ks-> ∀(D:Nat),d<=D-> ∀(x y:Value) (r:Bool),zt8 P t x->zt8 P t y->(∀z∈x.cells.toList,z.oneCell'=true)->(∀z∈y.cells.toList,z.oneCell'=true)->
  eqXs ks x.cells.toList y.cells.toList=some r-> ∀w,(Op.equalIn D t x y).run P w= .ok r w
 |0,_,_,h=>by cases h
 |d+1,t,ks,h=>by
  intro D hD x y r hx hy hox hoy he w
  obtain⟨D,rfl⟩: ∃D',D=D'+1:=⟨D - 1,by omega⟩
  have prim: ∀k,ks= [k]->aggT P t=some false-> ∃r',eqPx k x y=some r'/\r=r':=by
   intro k hk ha
   unfold zt8 at hx hy
   rw[if_neg (by rw[ha];simp)]at hx hy
   rw[zz1 hx,zz1 hy,hk]at he
   simp only[eqXs]at he
   cases hp:eqPx k x y with
   |none=>rw[hp]at he;cases he
   |some r'=>rw[hp]at he;simp at he;exact⟨r',rfl,he.symm⟩
  unfold zs1 at h
  split at h
  .rename_i hu ha
   simp at h
   obtain⟨r',hp,rfl⟩:=prim .b h.symm ha
   obtain⟨m,n,rfl,rfl,rfl⟩:=xO4 hp
   simp[Op.equalIn,run_underlying hu]
  .rename_i k hu ha
   simp at h
   obtain⟨r',hp,rfl⟩:=prim (.i k) h.symm ha
   obtain⟨m,n,rfl,rfl,rfl⟩:=xO5 hp
   simp[Op.equalIn,run_underlying hu]
  .rename_i hu ha
   simp at h
   obtain⟨r',hp,rfl⟩:=prim .s h.symm ha
   obtain⟨m,n,rfl,rfl,rfl⟩:=xO6 hp
   simp[Op.equalIn,run_underlying hu]
  .rename_i fs hu ha
   split at h
   .rename_i hst
    unfold zt8 at hx hy
    rw[if_pos ha]at hx hy
    obtain⟨xs,rfl⟩:=hx
    obtain⟨ys,rfl⟩:=hy
    have hfs:P.fieldsOf t=fs:=by simp[Program.fieldsOf,hu]
    rw[run_equalIn_struct (P:=P) (w:=w) D t xs ys (by rw[hfs];exact hu) hst,hfs]
    simp only[Value.cells]at he hox hoy
    have key: ∀(l:List Field) (off:Nat) (ks:List Pk) (r:Bool),zz2 P (zs1 P d) off l=some ks->eqXs ks (xs.toList.drop off) (ys.toList.drop off)=some r->(Op.eqFields D xs ys l).run P w= .ok r w:=by
     intro l
     induction l with
     |nil=>
      intro off ks r hk hr
      simp[zz2]at hk
      subst hk
      have:=yb4 _ _ _ _ hr
      have h1:xs.toList.drop off= []:=List.length_eq_zero_iff.1 this.1
      have h2:ys.toList.drop off= []:=List.length_eq_zero_iff.1 this.2
      rw[h1,h2]at hr
      simp[eqXs]at hr
      subst hr
      simp[Op.eqFields]
     |cons f l ih=>
      intro off ks r hk hr
      unfold zz2 at hk
      split at hk
      .rename_i hf
       cases hsh:zs1 P d f.type with
       |none=>rw[hsh]at hk;cases hk
       |some k1=>
        rw[hsh]at hk
        simp only[As]at hk
        split at hk
        .rename_i hsz
         simp only[B6]at hk
         obtain⟨k2,hk2,rfl⟩:=hk
         have hlen:=yb4 _ _ _ _ hr
         simp only[Ei,Aw,Bz]at hlen
         obtain⟨r1,r2,h1,h2,rfl⟩:=zV3 k1 k2 _ _ _ hr
         obtain⟨b,hab,hb1⟩:=yD2 hsh
         have hk1:0<k1.length∨k1.length=0:=by omega
         have hbx:off+k1.length<=xs.size/\off+k1.length<=ys.size∨k1.length=0/\b=true:=by
          rcases hk1 with q|q
          .left;omega
          .right
           refine⟨q, ?_⟩
           cases b with
           |true=>rfl
           |false=>have:=hb1 rfl;omega
         have parts: ∃a b',(part f.type xs off).run P w= .ok a w/\(part f.type ys off).run P w= .ok b' w/\zt8 P f.type a/\zt8 P f.type b'/\a.cells.toList=(xs.toList.drop off).take k1.length/\b'.cells.toList=(ys.toList.drop off).take k1.length:=by
          rcases hbx with ⟨q1,q2⟩|⟨q,rfl⟩
          .obtain⟨a,p1,p2,p3⟩:=yr3 (w:=w) hsz hab hb1 xs off q1 hox
           obtain⟨b',s1,s2,s3⟩:=yr3 (w:=w) hsz hab hb1 ys off q2 hoy
           exact⟨a,b',p1,s1,p2,s2,p3,s3⟩
          .refine⟨.agg (xs.extract off (off+k1.length)),.agg (ys.extract off (off+k1.length)), ?_, ?_, ?_, ?_, ?_, ?_⟩
           .simp only[part,Sem.run_bind,zj8 hab,Result.andThen_ok,if_true,wR hsz,Sem.run_pure]
           .simp only[part,Sem.run_bind,zj8 hab,Result.andThen_ok,if_true,wR hsz,Sem.run_pure]
           .unfold zt8;rw[if_pos hab];exact⟨_,rfl⟩
           .unfold zt8;rw[if_pos hab];exact⟨_,rfl⟩
           .simp[Value.cells,Array.toList_extract,Dz]
           .simp[Value.cells,Array.toList_extract,Dz]
         obtain⟨a,b',p1,p2,f1,f2,c1,c2⟩:=parts
         have hrun:=zG8 d f.type k1 hsh D (by omega) a b' r1 f1 f2 (by rw[c1];exact fun z hz=>hox z (D2 (Bn hz))) (by rw[c2];exact fun z hz=>hoy z (D2 (Bn hz))) (by rw[c1,c2];exact h1) w
         have hih:=ih (off+k1.length) k2 r2 hk2 (by simpa[List.drop_drop]using h2)
         simp only[Op.eqFields,hf.1,ne_eq,not_false_eq_true,if_true,Sem.run_bind,hf.2,p1,p2,hrun,Result.andThen_ok]
         cases r1
         .simp
         .simpa using hih
        .cases hk
      .cases hk
    exact key fs.toList 0 ks r h (by simpa using he)
   .cases h
  .cases h
end
end Go.Vx
