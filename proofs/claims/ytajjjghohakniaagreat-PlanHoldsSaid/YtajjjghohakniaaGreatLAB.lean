/-
  Operations over trees: what each gives, and that the machine does the same.
  No condition: a library text; nothing of the program is named.
-/
import Derived.Test.YtajjjghohakniaaGreatLAA
import Derived.Deep.AppendSrc
namespace Go.Vx
open Go
def uni (s:Nat) (rows:List (List V)):Prop:= ∀r∈rows,r.length=s
theorem zY {α:Type} {s:Nat}: ∀{rows:List (List α)},(∀r∈rows,r.length=s)→rows.flatten.length=rows.length*s
 | [],_=>by simp
 |r::rows,h=>by
  have:=zY (rows:=rows) fun x hx=>h x (by simp[hx])
  rw[List.flatten_cons,List.length_append,this,h r (by simp),List.length_cons,Nat.add_mul,Nat.one_mul,Nat.add_comm]
theorem yU {α:Type} {s:Nat}: ∀{rows:List (List α)} (i j:Nat),(∀r∈rows,r.length=s)→j<s→rows.flatten[i*s+j]? =(rows[i]?).bind fun r=>r[j]?
 | [],i,j,_,_=>by simp
 |r::rows,0,j,h,hj=>by
  rw[List.flatten_cons,Nat.zero_mul,Nat.zero_add,List.getElem?_append_left (by rw[h r (by simp)];exact hj)]
  rfl
 |r::rows,i+1,j,h,hj=>by
  have hr:=h r (by simp)
  rw[List.flatten_cons,List.getElem?_append_right (by rw[hr,Nat.add_mul];omega),hr,show(i+1)*s+j - s=i*s+j by rw[Nat.add_mul];omega,
   yU i j (fun x hx=>h x (by simp[hx])) hj]
  simp
theorem RdP.of_flat {w:World} {L:Nat→Nat} {rows:List (List V)} {s b o cap:Nat} (hs:0<s) (hu:uni s rows) (hlim:o+rows.length*s≤L b) (hcap:rows.length≤cap)
  {g:Tag} (ha: ∀id,g≠ .app id) (hg:g= .full→cap=rows.length)
  (h: ∀(k:Nat) v,rows.flatten[k]? =some v→ ∃x,w.cell? ⟨b,o+k,none⟩=some x∧RdP w L v x):RdP w L (.sl g rows) (.slice (some ⟨b,o,none⟩) rows.length cap):=by
 refine .sl g rows s b o cap (fun i j=>(w.cell? ⟨b,o+i*s+j,none⟩).getD undef) ha hs hu hlim hcap hg (fun i j hi hj=> ?_) (fun i j hi hj=> ?_)
 ·have hj':j<rows[i].length:=by rw[hu _ (List.getElem_mem hi)];exact hj
  obtain⟨x,hx,_⟩:=h (i*s+j) (rows[i][j]) (by rw[yU i j hu hj,List.getElem?_eq_getElem hi];simp[hj'])
  rw[←Nat.add_assoc]at hx
  simp[hx]
 ·have hj':j<s:=by rw[←hu _ (List.getElem_mem hi)];exact hj
  obtain⟨x,hx,r⟩:=h (i*s+j) (rows[i][j]) (by rw[yU i j hu hj',List.getElem?_eq_getElem hi];simp[hj])
  rw[←Nat.add_assoc]at hx
  simpa[hx]using r
theorem RdP.flat {w:World} {L:Nat→Nat} {rows:List (List V)} {g:Tag} {x:Value} (r:RdP w L (.sl g rows) x) (hne:rows≠ []):
  ∃s b o cap,x= .slice (some ⟨b,o,none⟩) rows.length cap∧0<s∧uni s rows∧o+rows.length*s≤L b∧rows.length≤cap∧(g= .full→cap=rows.length)∧
   ∀(k:Nat) v,rows.flatten[k]? =some v→ ∃y,w.cell? ⟨b,o+k,none⟩=some y∧RdP w L v y:=by
 cases r with
 |sl0=>exact absurd rfl hne
 |sl _ _ s b o cap c ha hs hlen hlim hcap hg hc hr=>
  refine⟨s,b,o,cap,rfl,hs,hlen,hlim,hcap,hg,fun k v hk=> ?_⟩
  have hkl:k<rows.length*s:=by rw[←zY hlen];exact(List.getElem?_eq_some_iff.1 hk).1
  have hi:k/s<rows.length:=by rw[Nat.div_lt_iff_lt_mul hs];exact hkl
  have hj:k%s<s:=Nat.mod_lt _ hs
  have hk':k=k/s*s+k%s:=by rw[Nat.mul_comm];exact(Nat.div_add_mod k s).symm
  rw[hk',yU _ _ hlen hj,List.getElem?_eq_getElem hi]at hk
  have hj':k%s<rows[k/s].length:=by rw[hlen _ (List.getElem_mem hi)];exact hj
  simp only[Option.bind_some,List.getElem?_eq_getElem hj',Option.some.injEq]at hk
  subst hk
  refine⟨c (k/s) (k%s), ?_,hr _ _ hi hj'⟩
  have:=hc (k/s) (k%s) hi hj
  rw[Nat.add_assoc,←hk']at this
  exact this
theorem RdP.len {w:World} {L:Nat→Nat} {rows:List (List V)} {g:Tag} {x:Value} (r:RdP w L (.sl g rows) x): ∃a cap,x= .slice a rows.length cap∧rows.length≤cap∧(g= .full→cap=rows.length):=by
 cases r with
 |sl0 _ a cap hg=>exact⟨_,_,rfl,Nat.zero_le _,fun e=>hg e⟩
 |sl _ _ s b o cap c ha hs hlen hlim hcap hg hc hr=>exact⟨_,_,rfl,hcap,hg⟩
theorem RdP.src {P:Program} {w:World} {L:Nat→Nat} {rows:List (List V)} {g:Tag} {x:Value} {s:Nat} {tx e:TypeId} (r:RdP w L (.sl g rows) x) (hk:P.underlying tx=some (.slice e)) (_hs:0<s) (hu:uni s rows):
  ∃news,Src P s tx x rows.length news w∧All2 (RdP w L) rows.flatten news:=by
 by_cases hne:rows= []
 ·subst hne
  obtain⟨a,cap,rfl,_,_⟩:=r.len
  cases a with
  |none=>exact⟨[],Src.ofNil w hk cap,trivial⟩
  |some a=>exact⟨[],Src.ofSlice w hk a 0 cap [] (by simp) (fun j u h=>by simp at h) (fun _ h=>by cases h),trivial⟩
 ·obtain⟨s',b,o,cap,rfl,hs',hu',hlim,hcap,_,hc⟩:=r.flat hne
  have hss:s'=s:=by
   obtain⟨r0,rest,rfl⟩:=List.exists_cons_of_ne_nil hne
   rw[←hu' r0 (by simp),hu r0 (by simp)]
  subst hss
  have hfl:=zY hu'
  let f:=fun k=>(w.cell? ⟨b,o+k,none⟩).getD undef
  have hall:All2 (RdP w L) rows.flatten ((List.range (rows.length*s')).map f):=by
   refine All2.of (by simp[hfl]) fun k v y hv hy=> ?_
   obtain⟨z,hz,rz⟩:=hc k v hv
   rw[List.getElem?_map]at hy
   cases hr:(List.range (rows.length*s'))[k]? with
   |none=>rw[hr]at hy;simp at hy
   |some q=>
    rw[hr]at hy
    obtain⟨hq1,hq2⟩:=List.getElem?_eq_some_iff.1 hr
    simp at hq2
    subst hq2
    simp only[Option.map_some,Option.some.injEq]at hy
    subst hy
    simpa[f,hz]using rz
  refine⟨(List.range (rows.length*s')).map f,Src.ofSlice w hk ⟨b,o,none⟩ rows.length cap _ (by simp) (fun j u hj=> ?_) (fun u hu=> ?_),hall⟩
  ·rw[List.getElem?_map]at hj
   have hjl:j<rows.length*s':=by
    rcases Nat.lt_or_ge j (rows.length*s')with h|h
    ·exact h
    ·rw[List.getElem?_eq_none (by simpa using h)]at hj;simp at hj
   rw[List.getElem?_eq_getElem (by simpa using hjl)]at hj
   simp only[List.getElem_range,Option.map_some,Option.some.injEq]at hj
   obtain⟨z,hz,_⟩:=hc j _ (List.getElem?_eq_getElem (by rw[hfl];exact hjl))
   rw[xP,←hj]
   simp[f,hz]
  ·obtain⟨k,hk,rfl⟩:=List.mem_map.1 hu
   have hkl:k<rows.length*s':=by simpa using hk
   obtain⟨z,hz,rz⟩:=hc k _ (List.getElem?_eq_getElem (by rw[hfl];exact hkl))
   simpa[f,hz]using rz.oneCell
def zR (bs:List UInt8):List (List V):=bs.map fun b=> [.int .u8 b.toNat]
theorem zJ1 (bs:List UInt8):uni 1 (zR bs):=fun r hr=>by
 obtain⟨b,_,rfl⟩:=List.mem_map.1 hr;rfl
theorem zm7 {w:World} {L:Nat→Nat} (bs:List UInt8):All2 (RdP w L) (zR bs).flatten (byteCells ⟨bs.toArray⟩):=by
 unfold zR byteCells
 show All2 _ _ (bs.map _)
 induction bs with
 |nil=>trivial
 |cons b bs ih=>exact⟨.int _ _,ih⟩
theorem za1 {s:Nat} {a b:List (List V)} (ha:uni s a) (hb:uni s b):uni s (a++b):=fun r hr=>by
 rcases List.mem_append.1 hr with h|h
 ·exact ha r h
 ·exact hb r h
theorem RdP.of_row {w:World} {L:Nat→Nat} {rows:List (List V)} {s b o cap:Nat} {arr:Array Value} {T:TypeId} {fz:Nat×Nat} {xs:List Value} (hs:0<s) (hu:uni s rows) (hlim:o+rows.length*s≤L b) (hcap:rows.length≤cap)
  {g:Tag} (ha: ∀id,g≠ .app id) (hg:g= .full→cap=rows.length)
  (hh:w.heap[b]? =some (.cells arr T fz)) (hx: ∀(k:Nat) x,xs[k]? =some x→arr[o+k]? =some x) (h:All2 (RdP w L) rows.flatten xs):RdP w L (.sl g rows) (.slice (some ⟨b,o,none⟩) rows.length cap):=by
 refine .of_flat hs hu hlim hcap ha hg fun k v hv=> ?_
 obtain⟨x,hx',r⟩:=h.get k v hv
 exact⟨x,by simp[World.cell?,hh];exact hx k x hx',r⟩
section
variable {c:Ctx} {w:World} {L:Nat→Nat} {σ:St} {β:List Value}
theorem yt5 (arr:Array Value) (k:Nat) (xs:List Value) (h:k+xs.length≤arr.size) (i:Nat) (x:Value) (hx:xs[i]? =some x):(yA arr k xs)[k+i]? =some x:=by
 have hi:i<xs.length:=(List.getElem?_eq_some_iff.1 hx).1
 rw[wU _ _ _ _ h,if_pos (by omega),show k+i - k=i by omega];exact hx
theorem zR0 (arr:Array Value) (k:Nat) (xs:List Value) (h:k+xs.length≤arr.size) (i:Nat) (hi:i<k):(yA arr k xs)[i]? =arr[i]? :=by
 rw[wU _ _ _ _ h,if_neg (by omega)]
theorem Mem.appIn (h:Mem c w L σ β) {i n s cap b o:Nat} {rows rows2:List (List V)} {xs:List Value} (hi:σ[i]? =some (.app n s)) (hβ:β[i]? =some (.slice (some ⟨b,o,none⟩) n cap))
  (hn:rows.length=n) (hr:RdP w L (.sl .ro rows) (.slice (some ⟨b,o,none⟩) n cap)) (hur:uni s rows) (hu:uni s rows2) (hx:All2 (RdP w L) rows2.flatten xs) (hpos:0<rows2.length) (hroom:n+rows2.length≤cap):
  ∃arr T fz,w.heap[b]? =some (.cells arr T fz)∧ze2 arr fz∧o+n*s+xs.length≤arr.size∧
   Mem c (yD w b (.cells (yA arr (o+n*s) xs) T fz)) (xJ L b (o+(n+rows2.length)*s)) (σ.set i (.app (n+rows2.length) s)) (β.set i (.slice (some ⟨b,o,none⟩) (n+rows2.length) cap))∧
   Le w L (yD w b (.cells (yA arr (o+n*s) xs) T fz)) (xJ L b (o+(n+rows2.length)*s))∧
   Ext σ β (σ.set i (.app (n+rows2.length) s)) (β.set i (.slice (some ⟨b,o,none⟩) (n+rows2.length) cap))∧
   RdP (yD w b (.cells (yA arr (o+n*s) xs) T fz)) (xJ L b (o+(n+rows2.length)*s)) (.sl .ro (rows++rows2)) (.slice (some ⟨b,o,none⟩) (n+rows2.length) cap):=by
 obtain⟨a,cap',e,hncap,hs,hok⟩:=h.objs i _ _ hi hβ
 cases e
 obtain⟨b',o',arr,T,fz,e,hh,hf,hsz,hL⟩:=hok (by omega)
 cases e
 have hlt:b<w.heap.size:=(Array.getElem?_eq_some_iff.1 hh).1
 have hxl:xs.length=rows2.length*s:=by rw[←hx.length,zY hu]
 have hmul:(n+rows2.length)*s=n*s+rows2.length*s:=Nat.add_mul _ _ _
 have hcm:(n+rows2.length)*s≤cap*s:=Nat.mul_le_mul_right _ hroom
 have hfit:o+n*s+xs.length≤arr.size:=by omega
 have hle:Le w L (yD w b (.cells (yA arr (o+n*s) xs) T fz)) (xJ L b (o+(n+rows2.length)*s)):=by
  refine⟨fun k=> ?_,fun k q hq=> ?_⟩
  ·by_cases e:k=b
   ·subst e;simp[xJ];omega
   ·simp[xJ,e]
  ·by_cases e:k=b
   ·subst e
    simp only[World.cell?,xR _ _ _ hlt,hh]
    rw[zR0 _ _ _ hfit _ (by omega)]
   ·exact ze3 (wM w b k _ e) q
 have hne:rows2.length≠0:=by omega
 have hext:Ext σ β (σ.set i (.app (n+rows2.length) s)) (β.set i (.slice (some ⟨b,o,none⟩) (n+rows2.length) cap)):=by
  refine⟨fun id a e=> ?_,fun id n0 s0 e=> ?_,fun id r0 s0 e=> ?_,fun id e=> ?_⟩
  ·have:i≠id:=fun q=>by subst q;rw[hβ]at e;simp at e
   rw[List.getElem?_set_ne this];exact e
  ·by_cases q:i=id
   ·subst q
    rw[hi]at e;cases e
    exact⟨n+rows2.length,by rw[List.getElem?_set_self (List.getElem?_eq_some_iff.1 hi).1],by omega,fun e=>by omega⟩
   ·exact⟨n0,by rw[List.getElem?_set_ne q];exact e,Nat.le_refl _,fun _=>by rw[List.getElem?_set_ne q]⟩
  ·have q:i≠id:=fun q=>by subst q;rw[hi]at e;cases e
   exact .inr ⟨r0,by rw[List.getElem?_set_ne q];exact e,Nat.le_refl _,fun _=>by rw[List.getElem?_set_ne q]⟩
  ·have q:i≠id:=fun q=>by subst q;rw[hi]at e;cases e
   rw[List.getElem?_set_ne q];exact e
 refine⟨arr,T,fz,hh,hf,hfit, ?_,hle,hext, ?_⟩
 ·refine h.upd i _ _ hle hext (fun k=>k=b) (fun j o' x' k hj ho' hx' hk e=>by subst e;exact h.apart j i o' _ x' _ k hj ho' hx' hi hβ hk (by simp[excl];omega))
   (fun k e=>by subst e;exact h.mine i _ _ k hi hβ (by simp[excl];omega)) (fun k hk=>⟨wM w b k _ hk,by simp[xJ,hk]⟩) (by simp[yD]) rfl rfl rfl (fun k hk=> ?_) ?_ (fun k hk=> ?_)
  ·simp only[xJ];rw[if_neg (by omega)];exact h.lim k hk
  ·refine⟨_,cap,rfl,hroom,hs,fun hl=>⟨b,o,_,T,fz,rfl,xR _ _ _ hlt,fun q hq=>hf q (by rw[yH]at hq;exact hq),by rw[yH];exact hsz,by simp[xJ]⟩⟩
  ·simp[excl]at hk;exact hk.2.symm
 ·have hlen:(rows++rows2).length=n+rows2.length:=by simp[hn]
  have e:Value.slice (some ⟨b,o,none⟩) (n+rows2.length) cap=Value.slice (some ⟨b,o,none⟩) (rows++rows2).length cap:=by rw[hlen]
  rw[e]
  refine .of_flat hs (za1 hur hu) (by rw[hlen];simp[xJ]) (by omega) (fun _=>by simp) (fun e=>by simp at e) fun k v hk=> ?_
  rw[List.flatten_append]at hk
  have hfl:=zY hur
  simp only[World.cell?,xR _ _ _ hlt]
  by_cases hkn:k<rows.flatten.length
  ·rw[List.getElem?_append_left hkn]at hk
   have hne':rows≠ []:=fun e=>by subst e;simp at hkn
   obtain⟨s',b',o',cap',e,_,hu',_,_,_,hcell⟩:=hr.flat hne'
   cases e
   obtain⟨y,hy,ry⟩:=hcell k v hk
   refine⟨y, ?_,ry.mono hle⟩
   rw[hn]at hfl
   simp only[World.cell?,hh]at hy
   simp only[Option.isSome_none,Bool.false_eq_true,if_false]at hy⊢
   rw[zR0 _ _ _ hfit _ (by omega)]
   exact hy
  ·rw[List.getElem?_append_right (by omega)]at hk
   obtain⟨y,hy,ry⟩:=hx.get _ _ hk
   refine⟨y, ?_,ry.mono hle⟩
   have:=yt5 arr (o+n*s) xs hfit _ y hy
   rw[hn]at hfl
   simp only[Option.isSome_none,Bool.false_eq_true,if_false]
   rw[show o+n*s+(k - rows.flatten.length)=o+k by omega]at this
   exact this
theorem Mem.appNew (h:Mem c w L σ β) {i n s cap:Nat} {rows:List (List V)} {arr:Array Value} {T:TypeId} {xs:List Value} {x0:Value} (hi:σ[i]? =some (.app n s)) (hβ:β[i]? =some x0) (hs:0<s)
  (hu:uni s rows) (hx:All2 (RdP w L) rows.flatten xs) (hgt:n<rows.length) (hcap:rows.length≤cap) (hsz:cap*s≤arr.size) (hxs: ∀(k:Nat) x,xs[k]? =some x→arr[k]? =some x):
   Mem c (w.alloc (.cells arr T)) (xJ L w.heap.size (rows.length*s)) (σ.set i (.app rows.length s)) (β.set i (.slice (some ⟨w.heap.size,0,none⟩) rows.length cap))∧
   Le w L (w.alloc (.cells arr T)) (xJ L w.heap.size (rows.length*s))∧
   Ext σ β (σ.set i (.app rows.length s)) (β.set i (.slice (some ⟨w.heap.size,0,none⟩) rows.length cap))∧
   RdP (w.alloc (.cells arr T)) (xJ L w.heap.size (rows.length*s)) (.sl .ro rows) (.slice (some ⟨w.heap.size,0,none⟩) rows.length cap):=by
 obtain⟨h1,hle⟩:=h.alloc (.cells arr T) (rows.length*s)
 have hnp: ∀a,x0≠ .pointer a:=by
  intro a e;subst e
  obtain⟨_,_,e,_⟩:=h.objs i _ _ hi hβ
  cases e
 have hext:Ext σ β (σ.set i (.app rows.length s)) (β.set i (.slice (some ⟨w.heap.size,0,none⟩) rows.length cap)):=by
  refine⟨fun id a e=> ?_,fun id n0 s0 e=> ?_,fun id r0 s0 e=> ?_,fun id e=> ?_⟩
  ·have:i≠id:=fun q=>by subst q;rw[hβ]at e;cases e;exact hnp _ rfl
   rw[List.getElem?_set_ne this];exact e
  ·by_cases q:i=id
   ·subst q
    rw[hi]at e;cases e
    exact⟨rows.length,by rw[List.getElem?_set_self (List.getElem?_eq_some_iff.1 hi).1],by omega,fun e=>by omega⟩
   ·exact⟨n0,by rw[List.getElem?_set_ne q];exact e,Nat.le_refl _,fun _=>by rw[List.getElem?_set_ne q]⟩
  ·have q:i≠id:=fun q=>by subst q;rw[hi]at e;cases e
   exact .inr ⟨r0,by rw[List.getElem?_set_ne q];exact e,Nat.le_refl _,fun _=>by rw[List.getElem?_set_ne q]⟩
  ·have q:i≠id:=fun q=>by subst q;rw[hi]at e;cases e
   rw[List.getElem?_set_ne q];exact e
 refine⟨?_,hle,hext, ?_⟩
 ·refine h1.upd i _ _ (Le.refl _ _) hext (fun k=>k=w.heap.size) (fun j o' x' k hj ho' hx' hk e=> ?_) (fun k e=>by subst e;exact .inl h.size) (fun k _=>⟨rfl,rfl⟩) rfl rfl rfl rfl h1.lim ?_ (fun k hk=> ?_)
  ·have:=(h.objs j o' x' ho' hx').excl_lt hk;omega
  ·refine⟨_,cap,rfl,hcap,hs,fun hl=>⟨_,0,_,T,(0,0),rfl,yJ _ _,fun q _ hq=>by simp at hq,by omega,by simp[xJ]⟩⟩
  ·simp[excl]at hk;exact hk.2.symm
 ·exact .of_row hs hu (by simp[xJ]) hcap (fun _=>by simp) (fun e=>by simp at e) (yJ _ _) (fun k x hk=>by rw[Nat.zero_add];exact hxs k x hk) (hx.imp fun _ _=>RdP.mono hle)
theorem Mem.appPush (h:Mem c w L σ β) {s cap:Nat} {rows:List (List V)} {arr:Array Value} {T:TypeId} {xs:List Value} (hs:0<s)
  (hu:uni s rows) (hx:All2 (RdP w L) rows.flatten xs) (hcap:rows.length≤cap) (hsz:cap*s≤arr.size) (hxs: ∀(k:Nat) x,xs[k]? =some x→arr[k]? =some x):
   Mem c (w.alloc (.cells arr T)) (xJ L w.heap.size (rows.length*s)) (σ++ [.app rows.length s]) (β++ [.slice (some ⟨w.heap.size,0,none⟩) rows.length cap])∧
   Le w L (w.alloc (.cells arr T)) (xJ L w.heap.size (rows.length*s))∧
   RdP (w.alloc (.cells arr T)) (xJ L w.heap.size (rows.length*s)) (.sl .ro rows) (.slice (some ⟨w.heap.size,0,none⟩) rows.length cap):=by
 obtain⟨h1,hle⟩:=h.alloc (.cells arr T) (rows.length*s)
 refine⟨?_,hle, ?_⟩
 ·refine h1.push _ _ ⟨_,cap,rfl,hcap,hs,fun hl=>⟨_,0,_,T,(0,0),rfl,yJ _ _,fun q _ hq=>by simp at hq,by omega,by simp[xJ]⟩⟩ (fun j o' x' k ho' hx' hk e=> ?_) (fun k hk=> ?_)
  ·have:=(h.objs j o' x' ho' hx').excl_lt hk
   simp[excl]at e
   omega
  ·simp[excl]at hk
   rw[←hk.2];exact .inl h.size
 ·exact .of_row hs hu (by simp[xJ]) hcap (fun _=>by simp) (fun e=>by simp at e) (yJ _ _) (fun k x hk=>by rw[Nat.zero_add];exact hxs k x hk) (hx.imp fun _ _=>RdP.mono hle)
theorem Mem.own (h:Mem c w L σ β) {s n:Nat} {a:Option Addr} (hs:0<s):Mem c w L (σ++ [.app n s]) (β++ [.slice a n n]):=by
 refine h.push _ _ ⟨a,n,rfl,Nat.le_refl _,hs,fun hl=>by omega⟩ (fun j o' x' k _ _ _=> ?_) (fun k hk=> ?_)
 ·cases a<;>simp[excl]
 ·cases a<;>simp[excl]at hk
theorem ya3 (cells vs:List V) (off i:Nat) (h:off≤cells.length):(yP cells off vs)[i]? =if off≤i∧i<off+vs.length then vs[i - off]? else cells[i]? :=by
 unfold yP
 have ht:(cells.take off).length=off:=by simp;omega
 by_cases h1:i<off
 ·rw[if_neg (by omega),List.append_assoc,List.getElem?_append_left (by omega),List.getElem?_take,if_pos h1]
 ·by_cases h2:i<off+vs.length
  ·rw[if_pos (by omega),List.getElem?_append_left (by simp;omega),List.getElem?_append_right (by omega),ht]
  ·rw[if_neg (by omega),List.getElem?_append_right (by simp;omega)]
   simp only[List.length_append,ht,List.getElem?_drop]
   congr 1;omega
theorem zO0 (cells vs:List V) (off:Nat) (h:off≤cells.length):(yP cells off vs).length=max cells.length (off+vs.length):=by
 simp[yP];omega
theorem Ext.setLst {i s:Nat} {rows rows2:List (List V)} {x y:Value} (hi:σ[i]? =some (.lst rows s)) (hl:β.length=σ.length) (hβ:β[i]? =some x) (hx: ∀a,x≠ .pointer a) (hge:rows.length≤rows2.length) (hsame:rows2.length=rows.length→y=x):
  Ext σ β (σ.set i (.lst rows2 s)) (β.set i y):=by
 have hlt:i<σ.length:=(List.getElem?_eq_some_iff.1 hi).1
 refine⟨fun id a e=> ?_,fun id n0 s0 e=> ?_,fun id r0 s0 e=> ?_,fun id e=> ?_⟩
 ·have:i≠id:=fun q=>by subst q;rw[hβ]at e;cases e;exact hx _ rfl
  rw[List.getElem?_set_ne this];exact e
 ·have q:i≠id:=fun q=>by subst q;rw[hi]at e;cases e
  exact⟨n0,by rw[List.getElem?_set_ne q];exact e,Nat.le_refl _,fun _=>by rw[List.getElem?_set_ne q]⟩
 ·by_cases q:i=id
  ·subst q
   rw[hi]at e;cases e
   exact .inr ⟨rows2,by rw[List.getElem?_set_self hlt],hge,fun e=>by rw[List.getElem?_set_self (by omega),hsame e,hβ]⟩
  ·exact .inr ⟨r0,by rw[List.getElem?_set_ne q];exact e,Nat.le_refl _,fun _=>by rw[List.getElem?_set_ne q]⟩
 ·have q:i≠id:=fun q=>by subst q;rw[hi]at e;cases e
  rw[List.getElem?_set_ne q];exact e
theorem Mem.lstPut (h:Mem c w L σ β) {i s cap b off n:Nat} {rows rows2:List (List V)} {vs:List V} {xs:List Value} (hi:σ[i]? =some (.lst rows s)) (hβ:β[i]? =some (.slice (some ⟨b,0,none⟩) n cap)) (hcap:0<cap)
  (hv:All2 (RdC w L σ β) vs xs) (hoff:off≤rows.length*s) (hu2:uni s rows2) (hr:rows2.flatten=yP rows.flatten off vs) (hge:rows.length≤rows2.length) (hle2:rows2.length≤cap):
  ∃arr T fz,w.heap[b]? =some (.cells arr T fz)∧ze2 arr fz∧off+xs.length≤arr.size∧
   Mem c (yD w b (.cells (yA arr off xs) T fz)) L (σ.set i (.lst rows2 s)) (β.set i (.slice (some ⟨b,0,none⟩) rows2.length cap))∧
   Le w L (yD w b (.cells (yA arr off xs) T fz)) L∧
   Ext σ β (σ.set i (.lst rows2 s)) (β.set i (.slice (some ⟨b,0,none⟩) rows2.length cap)):=by
 obtain⟨a,cap',e,hncap,hs,hu,hok⟩:=h.objs i _ _ hi hβ
 cases e
 obtain⟨b',arr,T,fz,e,hh,hf,hsz,hL,hall⟩:=hok hcap
 cases e
 have hlt:b<w.heap.size:=(Array.getElem?_eq_some_iff.1 hh).1
 have hil:i<σ.length:=(List.getElem?_eq_some_iff.1 hi).1
 have hfl:=zY hu
 have hfl2:=zY hu2
 have hxl:=hv.length
 have hlen2:rows2.length*s=max (rows.length*s) (off+vs.length):=by rw[←hfl2,hr,zO0 _ _ _ (by omega),hfl]
 have hcm:rows2.length*s≤cap*s:=Nat.mul_le_mul_right _ hle2
 have hfit:off+xs.length≤arr.size:=by omega
 have hle:Le w L (yD w b (.cells (yA arr off xs) T fz)) L:=by
  refine⟨fun k=>Nat.le_refl _,fun k q hq=> ?_⟩
  by_cases e:k=b
  ·subst e;rw[hL]at hq;omega
  ·exact ze3 (wM w b k _ e) q
 have hext:Ext σ β (σ.set i (.lst rows2 s)) (β.set i (.slice (some ⟨b,0,none⟩) rows2.length cap)):=
  Ext.setLst hi h.len hβ (fun a e=>by cases e) hge fun e=>by rw[e]
 refine⟨arr,T,fz,hh,hf.1,hfit, ?_,hle,hext⟩
 refine h.upd i _ _ hle hext (fun k=>k=b) (fun j o' x' k hj ho' hx' hk e=>by subst e;exact h.apart j i o' _ x' _ k hj ho' hx' hi hβ hk (by simp[excl,hcap]))
   (fun k e=>by subst e;exact h.mine i _ _ k hi hβ (by simp[excl,hcap])) (fun k hk=>⟨wM w b k _ hk,rfl⟩) (by simp[yD]) rfl rfl rfl h.lim ?_ (fun k hk=> ?_)
 ·refine⟨_,cap,rfl,hle2,hs,hu2,fun _=>⟨b,_,T,fz,rfl,xR _ _ _ hlt,hf.size (by rw[yH]),by rw[yH];exact hsz,hL, ?_⟩⟩
  refine All2.of ?_ fun k p y hp hy=> ?_
  ·have hs2:(yA arr off xs).toList.length=arr.size:=by simp[yH]
   rw[hfl2,List.length_take,hs2];omega
  ·have hkl:k<rows2.length*s:=by rw[←hfl2];exact(List.getElem?_eq_some_iff.1 hp).1
   rw[List.getElem?_take,if_pos hkl,Array.getElem?_toList,wU _ _ _ _ hfit]at hy
   rw[hr,ya3 _ _ _ _ (by omega)]at hp
   by_cases hin:off≤k∧k<off+vs.length
   ·rw[if_pos hin]at hp
    rw[if_pos (by omega)]at hy
    obtain⟨z,hz,r⟩:=hv.get _ _ hp
    rw[hy]at hz;cases hz
    exact r.mono hle hext
   ·rw[if_neg hin]at hp
    rw[if_neg (by omega)]at hy
    obtain⟨z,hz,r⟩:=hall.get _ _ hp
    have hk1:k<rows.length*s:=by rw[←hfl];exact(List.getElem?_eq_some_iff.1 hp).1
    rw[List.getElem?_take,if_pos hk1,Array.getElem?_toList,hy]at hz;cases hz
    exact r.mono hle hext
 ·simp[excl,hcap]at hk;exact hk.symm
theorem zy1 (h:Mem c w L σ β):xJ L w.heap.size 0=L:=by
 funext k
 by_cases hk:k=w.heap.size
 ·subst hk;simp[xJ,h.lim _ (Nat.le_refl _)]
 ·simp[xJ,hk]
theorem Mem.lstPush (h:Mem c w L σ β) {s cap:Nat} {rows:List (List V)} {arr:Array Value} {T:TypeId} (hs:0<s)
  (hu:uni s rows) (hx:All2 (RdC w L σ β) rows.flatten (arr.toList.take (rows.length*s))) (hcap:rows.length≤cap) (hsz:cap*s≤arr.size):
   Mem c (w.alloc (.cells arr T)) L (σ++ [.lst rows s]) (β++ [.slice (some ⟨w.heap.size,0,none⟩) rows.length cap])∧
   Le w L (w.alloc (.cells arr T)) L∧Ext σ β (σ++ [.lst rows s]) (β++ [.slice (some ⟨w.heap.size,0,none⟩) rows.length cap]):=by
 have h1:=h.alloc (.cells arr T) 0
 rw[zy1 h]at h1
 have hext:=Ext.push σ β h.len (.lst rows s) (.slice (some ⟨w.heap.size,0,none⟩) rows.length cap)
 refine⟨h1.1.push _ _ ⟨_,cap,rfl,hcap,hs,hu,fun _=>⟨_,arr,T,(0,0),rfl,yJ _ _,zR3 _ _,hsz,h.lim _ (Nat.le_refl _),hx.imp fun _ _=>RdC.mono h1.2 hext⟩⟩ (fun j o' x' k ho' hx' hk e=> ?_) (fun k hk=> ?_),h1.2,hext⟩
 ·have:=(h.objs j o' x' ho' hx').excl_lt hk
  simp[excl]at e
  omega
 ·simp[excl]at hk
  rw[←hk.2];exact .inl h.size
theorem Mem.lstPushF (h:Mem c w L σ β) {s cap:Nat} {rows:List (List V)} {arr:Array Value} {T:TypeId} {fz:Nat×Nat} (hfz:unfrozenL s arr fz) (hs:0<s)
  (hu:uni s rows) (hx:All2 (RdC w L σ β) rows.flatten (arr.toList.take (rows.length*s))) (hcap:rows.length≤cap) (hsz:cap*s≤arr.size):
   Mem c (w.alloc (.cells arr T fz)) L (σ++ [.lst rows s]) (β++ [.slice (some ⟨w.heap.size,0,none⟩) rows.length cap])∧
   Le w L (w.alloc (.cells arr T fz)) L∧Ext σ β (σ++ [.lst rows s]) (β++ [.slice (some ⟨w.heap.size,0,none⟩) rows.length cap]):=by
 have h1:=h.alloc (.cells arr T fz) 0
 rw[zy1 h]at h1
 have hext:=Ext.push σ β h.len (.lst rows s) (.slice (some ⟨w.heap.size,0,none⟩) rows.length cap)
 refine⟨h1.1.push _ _ ⟨_,cap,rfl,hcap,hs,hu,fun _=>⟨_,arr,T,fz,rfl,yJ _ _,hfz,hsz,h.lim _ (Nat.le_refl _),hx.imp fun _ _=>RdC.mono h1.2 hext⟩⟩ (fun j o' x' k ho' hx' hk e=> ?_) (fun k hk=> ?_),h1.2,hext⟩
 ·have:=(h.objs j o' x' ho' hx').excl_lt hk
  simp[excl]at e
  omega
 ·simp[excl]at hk
  rw[←hk.2];exact .inl h.size
theorem Mem.lstNil (h:Mem c w L σ β) {s:Nat} {a:Option Addr} (hs:0<s):Mem c w L (σ++ [.lst [] s]) (β++ [.slice a 0 0]):=by
 refine h.push _ _ ⟨a,0,rfl,Nat.le_refl _,hs,fun r hr=>(by cases hr),fun hl=>by omega⟩ (fun j o' x' k _ _ _=> ?_) (fun k hk=> ?_)
 ·cases a<;>simp[excl]
 ·cases a<;>simp[excl]at hk
theorem Mem.lstRe (h:Mem c w L σ β) {i s cap:Nat} {rows rows2:List (List V)} {arr:Array Value} {T:TypeId} {x0:Value} (hi:σ[i]? =some (.lst rows s)) (hβ:β[i]? =some x0) (hs:0<s)
  (hu:uni s rows2) (hx:All2 (RdC w L σ β) rows2.flatten (arr.toList.take (rows2.length*s))) (hgt:rows.length<rows2.length) (hcap:rows2.length≤cap) (hsz:cap*s≤arr.size):
   Mem c (w.alloc (.cells arr T)) L (σ.set i (.lst rows2 s)) (β.set i (.slice (some ⟨w.heap.size,0,none⟩) rows2.length cap))∧
   Le w L (w.alloc (.cells arr T)) L∧
   Ext σ β (σ.set i (.lst rows2 s)) (β.set i (.slice (some ⟨w.heap.size,0,none⟩) rows2.length cap)):=by
 obtain⟨h1,hle⟩:=h.alloc (.cells arr T) 0
 rw[zy1 h]at h1 hle
 have hext:Ext σ β (σ.set i (.lst rows2 s)) (β.set i (.slice (some ⟨w.heap.size,0,none⟩) rows2.length cap)):=
  Ext.setLst hi h.len hβ (fun a e=>by
   subst e
   obtain⟨_,_,e,_⟩:=h.objs i _ _ hi hβ
   cases e) (by omega) (fun e=>by omega)
 refine⟨?_,hle,hext⟩
 refine h1.upd i _ _ (Le.refl _ _) hext (fun k=>k=w.heap.size) (fun j o' x' k hj ho' hx' hk e=> ?_) (fun k e=>by subst e;exact .inl h.size) (fun k _=>⟨rfl,rfl⟩) rfl rfl rfl rfl h1.lim ?_ (fun k hk=> ?_)
 ·have:=(h.objs j o' x' ho' hx').excl_lt hk;omega
 ·exact⟨_,cap,rfl,hcap,hs,hu,fun _=>⟨_,arr,T,(0,0),rfl,yJ _ _,zR3 _ _,hsz,h.lim _ (Nat.le_refl _),hx.imp fun _ _=>RdC.mono hle hext⟩⟩
 ·simp[excl]at hk;exact hk.2.symm
end
end Go.Vx
namespace Go.Vx
open Go
structure Sim (c:Ctx) (nt:Nat) (e:Env) (σ:St) (a:Act) (w:World) (L:Nat→Nat) (β:List Value):Prop where
 mem:Mem c w L σ β
 size:a.tmps.size=nt
 defs:a.defers= []
 env: ∀t,RdS w L σ β (e t) (a.tmps.getD t undef)
def za5:Value→V
 | .bool b=> .bool b
 | .int k n=> .int k n
 | .string s=> .str s.data.toList
 | .pointer none=> .nilp
 | .slice none 0 0=> .sl .full []
 | .agg _=> .u
 | .tuple _=> .u
 |v=> .raw v
def yF3 (g:Nat):V:=match tabs.find? (fun p=>p.1==g)with
 |some p=> .elp p.2 0
 |none=> .u
def zF (e:Env):Operand→V
 | .tmp t=>e t
 | .const v=>za5 v
 | .func f=> .fn f []
 | .global g=>yF3 g
def zB2:V→Bool
 | .u| .agg _| .tup _=>false
 |_=>true
theorem yZ0 {w:World} {L:Nat→Nat} {σ:St} {β:List Value} (v:Value):RdS w L σ β (za5 v) v:=by
 unfold za5
 split
 ·exact RdP.bool _
 ·exact RdP.int _ _
 ·rename_i s
  have:RdP w L (.str s.data.toList) (.string ⟨s.data.toList.toArray⟩):= .str _
  exact this
 ·exact RdP.nilp
 ·exact RdP.sl0 _ _ _ (fun _=>rfl) (fun _=>by simp)
 ·trivial
 ·trivial
 ·rename_i h1 h2 h3 h4 h5 h6 h7
  refine RdP.raw v ?_
  cases v<;>first|rfl|exact(h6 _ rfl).elim|exact(h7 _ rfl).elim
theorem zr7 {w:World} {L:Nat→Nat} (v:Value) (h1:v.oneCell'=true):RdP w L (za5 v) v∧zB2 (za5 v)=true:=by
 unfold za5
 split
 ·exact⟨RdP.bool _,rfl⟩
 ·exact⟨RdP.int _ _,rfl⟩
 ·rename_i s
  have:RdP w L (.str s.data.toList) (.string ⟨s.data.toList.toArray⟩):= .str _
  exact⟨this,rfl⟩
 ·exact⟨RdP.nilp,rfl⟩
 ·exact⟨RdP.sl0 _ _ _ (fun _=>rfl) (fun _=>by simp),rfl⟩
 ·simp[Value.oneCell']at h1
 ·simp[Value.oneCell']at h1
 ·exact⟨RdP.raw _ h1,rfl⟩
theorem Sim.eval {c:Ctx} {nt:Nat} {e:Env} {σ:St} {a:Act} {w:World} {L:Nat→Nat} {β:List Value} (h:Sim c nt e σ a w L β) (x:Operand):RdS w L σ β (zF e x) (a.eval x):=by
 cases x with
 |tmp t=>exact h.env t
 |const v=>exact yZ0 v
 |func f=>exact⟨[],rfl,trivial⟩
 |global g=>
  show RdS w L σ β (yF3 g) _
  unfold yF3
  split
  ·rename_i p hp
   have hm:=List.mem_of_find?_eq_some hp
   have hg:p.1=g:=by simpa using List.find?_some hp
   have hr:=((h.mem.tab.tab p hm).mono h.mem.le).rd (σ:=σ) (β:=β)
   rw[hg]at hr
   exact hr
  ·trivial
inductive R where
 |fail
 |ok (v:V)
 |need (p:Prop) (v:V)
 |st (v:V) (σ:St)
 |needst (p:Prop) (v:V) (σ:St)
 |all (f:Bool→V)
 |any (l:List (V×St))
section tables
variable (P:Program)
def szT (t:TypeId):Option Nat:=(P.info? t).map (·.size)
def yx3:TypeDesc→Bool
 | .struct _| .array _ _=>true
 |_=>false
def aggT (t:TypeId):Option Bool:=(P.underlying t).map yx3
def fldT (t:TypeId) (f:Nat):Option (Nat×Nat×Bool):=
 match P.underlying t with
 |some (.struct fs)=>(fs[f]?).bind fun f=>(szT P f.type).bind fun s=>(aggT P f.type).bind fun b=>if s=0 then none else some (f.offset,s,b)
 |_=>none
def slcT (t:TypeId):Option Nat:=
 match P.underlying t with
 |some (.slice e)=>szT P e
 |_=>none
def arrT (t:TypeId):Option (Nat×Nat×Bool):=
 match P.underlying t with
 |some (.array n e)=>(szT P e).bind fun s=>(aggT P e).map fun b=>(n,s,b)
 |_=>none
def zX (t:TypeId):Option (List V):=(P.info? t).bind fun i=>(i.zero).bind fun z=>if z.cells.all (·.oneCell')=true then some (z.cells.toList.map za5)else none
def elT (t:TypeId):Option (Nat×Nat):=
 match P.underlying t with
 |some (.slice e)=>(P.info? e).bind fun i=>i.zero.bind fun z=>if z.cells.size=i.size∧0<i.size∧0<i.bytes then some (i.size,i.bytes)else none
 |_=>none
inductive Kd where
 |int (k:IntKind)|str|bytes|other
 deriving DecidableEq
def kdT (t:TypeId):Option Kd:=
 match P.underlying t with
 |some (.int k)=>some (.int k)
 |some .string=>some .str
 |some (.slice e)=>(match P.underlying e with|some (.int .u8)=>some .bytes|_=>some .other)
 |some _=>some .other
 |none=>none
end tables
def zk9:V→Bool
 | .bool _| .int _ _| .str _| .raw _| .nilp| .sl _ _=>true
 |_=>false
def dem:V→V
 | .sl _ rows=> .sl .ro rows
 |v=>v
def xU:V→List V
 | .agg cs=>cs
 |v=> [v]
theorem RdP.weak {w:World} {L:Nat→Nat} {g:Tag} {rows:List (List V)} {x:Value} (r:RdP w L (.sl g rows) x):RdP w L (.sl .ro rows) x:=by
 cases r with
 |sl0 _ a cap hg ha=>exact .sl0 _ a cap (fun e=>by cases e) (fun _=>by simp)
 |sl _ _ s b o cap c ha hs hlen hlim hcap hg hc hr=>exact .sl _ rows s b o cap c (fun _=>by simp) hs hlen hlim hcap (fun e=>by cases e) hc hr
theorem RdC.dem {w:World} {L:Nat→Nat} {σ:St} {β:List Value} {v:V} {x:Value} (r:RdC w L σ β v x) (h:zk9 v=true):RdP w L (dem v) x:=by
 cases v with
 |sl g rows=>cases g with
  |ro=>exact r
  |full=>exact RdP.weak r
  |app id=>exact r.1
 |u=>simp[zk9]at h
 |ptr _ _=>simp[zk9]at h
 |elp _ _=>simp[zk9]at h
 |lsv _ _ _ _ _=>simp[zk9]at h
 |lsp _ _ _ _ _=>simp[zk9]at h
 |bsv _ _ _ _=>simp[zk9]at h
 |mp _=>simp[zk9]at h
 |fn _ _=>simp[zk9]at h
 |agg _=>simp[zk9]at h
 |tup _=>simp[zk9]at h
 |bool b=>exact r
 |int k n=>exact r
 |str s=>exact r
 |raw v=>exact r
 |nilp=>exact r
section inv
variable {w:World} {L:Nat→Nat} {σ:St} {β:List Value}
theorem zb2 {b:Bool} {x:Value} (r:RdS w L σ β (.bool b) x):x= .bool b:=by
 cases r;rfl
theorem yQ {k:IntKind} {n:Int} {x:Value} (r:RdS w L σ β (.int k n) x):x= .int k n:=by
 cases r;rfl
theorem wL {s:List UInt8} {x:Value} (r:RdS w L σ β (.str s) x):x= .string ⟨s.toArray⟩:=by
 cases r;rfl
theorem zX6 {x:Value} (r:RdS w L σ β .nilp x):x= .pointer none:=by
 cases r;rfl
theorem zs0 {g:Tag} {rows:List (List V)} {x:Value} (r:RdS w L σ β (.sl g rows) x):RdP w L (.sl .ro rows) x:=by
 cases g with
 |ro=>exact r
 |full=>exact RdP.weak r
 |app id=>exact r.1
theorem xa8 {v:V} {x:Value} (r:RdS w L σ β v x) (h:zB2 v=true):RdC w L σ β v x:=by
 cases v<;>first|exact r|simp[zB2]at h
theorem zv0 {x:Value} (h:x.oneCell'=true):x.cells= #[x]:=by
 cases x<;>first|rfl|simp[Value.oneCell']at h
def wN:V→Bool
 | .u| .tup _=>false
 |_=>true
theorem zq4 {v:V} {x:Value} (r:RdS w L σ β v x) (h:wN v=true):All2 (RdC w L σ β) (xU v) x.cells.toList:=by
 by_cases hc:zB2 v=true
 ·have r':=xa8 r hc
  rw[zv0 r'.oneCell]
  have:xU v= [v]:=by cases v<;>first|rfl|simp[zB2]at hc
  rw[this]
  exact⟨r',trivial⟩
 ·cases v with
  |agg cs=>obtain⟨xs,rfl,h⟩:=r;exact h
  |u=>simp[wN]at h
  |tup vs=>simp[wN]at h
  |_=>simp[zB2]at hc
end inv
end Go.Vx
