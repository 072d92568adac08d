/-
  Operations over trees: conversions, fields of values, function values, make; and all of them under one word.
  No condition: a library text; nothing of the program is named.
-/
import Derived.Test.YtkigddpaonhmlaaGreatXAE
set_option maxHeartbeats 8000000
namespace Go.Vx
open Go
section
variable {P:Program} {c:Ctx} {nt:Nat} {e:Env} {σ:St} {a:Act} {w:World} {L:Nat->Nat} {β:List Value} {o:Oper}
def zo7:List V->UInt8
 | [.int _ n]=>UInt8.ofNat n.toNat
 |_=>0
def zO7 (rows:List (List V)):Prop:= ∀r∈rows,∃n,r= [.int .u8 n]
theorem wQ (s:List UInt8):zO7 (zP s):=fun r hr=>by
 obtain⟨b,_,rfl⟩:=Ac.1 hr;exact⟨_,rfl⟩
theorem zi9 (s:List UInt8):(zP s).map zo7=s:=by
 unfold zP
 rw[Bq]
 conv=>rhs;rw[<-List.map_id s]
 apply Bm
 intro b _
 simp[zo7]
def zB7 (ks kd:Option Kd) (x:V):R:=
 match kd,x with
 |some (.int k),.int _ n=>if ks.isSome then .ok (.int k (k.wrap n))else .fail
 |some .str,.str s=>if ks.isSome then .ok (.str s)else .fail
 |some .bytes,.str s=>if ks=some .str then .ok (.sl .ro (zP s))else .fail
 |some .str,.sl _ rows=>if ks=some .bytes then .need (zO7 rows) (.str (rows.map zo7))else .fail
 |_,_=> .fail
theorem xE9 {t:TypeId} {k:IntKind} (h:kdT P t=some (.int k)):P.underlying t=some (.int k):=by
 unfold kdT at h
 split at h<;>(try split at h)<;>simp at h
 subst h;assumption
theorem zJ1 {t:TypeId} (h:kdT P t=some .str):P.underlying t=some .string:=by
 unfold kdT at h
 split at h<;>(try split at h)<;>simp at h
 assumption
theorem zS7 {t:TypeId} (h:kdT P t=some .bytes): ∃el,P.underlying t=some (.slice el)/\P.underlying el=some (.int .u8):=by
 unfold kdT at h
 split at h<;>(try split at h)<;>simp at h
 exact⟨_,by assumption,by assumption⟩
theorem yE8 {t:TypeId} (h:(kdT P t).isSome=true): ∃d,P.underlying t=some d:=by
 unfold kdT at h
 split at h<;>first|exact⟨_,by assumption⟩|simp at h
theorem xi3 {rows:List (List V)} (h:zO7 rows): ∃xs:List Int,rows=xs.map (fun n=> [V.int .u8 n]):=by
 induction rows with
 |nil=>exact⟨[],rfl⟩
 |cons r rows ih=>
  obtain⟨n,hn⟩:=h r (by simp)
  obtain⟨xs,hx⟩:=ih fun q hq=>h q (by simp[hq])
  exact⟨n::xs,by simp[hn,hx]⟩
theorem xF9 {dst:Option Tmp} {ty:TypeId} {pos:String} {aft:Array Edge} {g:Option (Nat×Bool)} (t t':TypeId) (x:Operand) (h:Sim c nt e σ a w L β):
  ROk (zB7 (kdT P t) (kdT P t') (zF e x)) σ (Yield P c ⟨dst,.convert t t' x,ty,pos,aft,g⟩ a w L σ β):=by
 have hx:=h.eval x
 unfold zB7
 split
 .rename_i k k' n hk h1
  rw[h1]at hx
  split
  .rename_i hs
   obtain⟨d,hd⟩:=yE8 hs
   exact Yield.pure h (x:= .int k (k.wrap n)) (by simp[execOp,yI hx,convert,run_underlying hd,run_underlying (xE9 hk),Conv.intToInt]) (RdP.int _ _)
  .trivial
 .rename_i s hk h1
  rw[h1]at hx
  split
  .rename_i hs
   obtain⟨d,hd⟩:=yE8 hs
   exact Yield.pure h (x:= .string ⟨s.toArray⟩) (by simp[execOp,wK hx,convert,run_underlying hd,run_underlying (zJ1 hk)]) (RdP.str _)
  .trivial
 .rename_i s hk h1
  rw[h1]at hx
  split
  .rename_i hs
   obtain⟨el,hu,he⟩:=zS7 hk
   have hr:=run_bytes_of_string (P:=P) w t t' el ⟨s.toArray⟩ (zJ1 hs) hu he
   have hd:=h.mem.drew
   obtain⟨h1,h2⟩:=hd.1.alloc (.cells (bytesRow ⟨s.toArray⟩ (grownCap w (ByteArray.mk s.toArray).size 0 el)) el ((bytesRow ⟨s.toArray⟩ (grownCap w (ByteArray.mk s.toArray).size 0 el)).size,(bytesRow ⟨s.toArray⟩ (grownCap w (ByteArray.mk s.toArray).size 0 el)).size+1)) s.length
   refine⟨_,_,_,β,.inl (by simp only[execOp,wK hx,Sem.run_bind,hr,Result.andThen_ok,Sem.run_pure];rfl),h1,hd.2.trans h2,Ext.refl _ _, ?_⟩
   have hge:=grownCap_ge w (ByteArray.mk s.toArray).size 0 el
   have hl:(zP s).length=s.length:=by simp[zP]
   have:RdP (w.drew.alloc (.cells (bytesRow ⟨s.toArray⟩ (grownCap w (ByteArray.mk s.toArray).size 0 el)) el ((bytesRow ⟨s.toArray⟩ (grownCap w (ByteArray.mk s.toArray).size 0 el)).size,(bytesRow ⟨s.toArray⟩ (grownCap w (ByteArray.mk s.toArray).size 0 el)).size+1))) (yY L w.drew.heap.size s.length) (.sl .ro (zP s)) (.slice (some ⟨w.drew.heap.size,0,none⟩) (zP s).length (grownCap w (ByteArray.mk s.toArray).size 0 el)):=by
    refine .of_row (xs:=byteCells ⟨s.toArray⟩) (s:=1) (by omega) (zN3 s) (by rw[hl];simp[yY]) (by rw[hl];rw[zk7]at hge⊢;exact hge) (fun _=>by simp) (fun q=>by cases q) (yH _ _) (fun k v hk=> ?_) (zo6 s)
    have hkl:=(A1.1 hk).1
    rw[Aa]
    unfold bytesRow
    rw[Dm (by simpa[byteCells]using hkl)]
    simpa[byteCells]using hk
   rw[hl,<-zk7 s]at this
   rw[zk7 s]at this⊢
   exact this
  .trivial
 .rename_i gg rows hk h1
  rw[h1]at hx
  split
  .rename_i hs
   obtain⟨el,hu,he⟩:=zS7 hs
   intro hb
   obtain⟨xs,rfl⟩:=xi3 hb
   have hr:=zv1 hx
   have hmap:(xs.map fun n=> [V.int .u8 n]).map zo7=xs.map fun n:Int=>UInt8.ofNat n.toNat:=by rw[Bq];rfl
   rw[hmap]
   refine Yield.pure h (x:= .string ⟨(xs.map fun n:Int=>UInt8.ofNat n.toNat).toArray⟩) ?_ (RdP.str _)
   by_cases h0:xs= []
   .subst h0
    obtain⟨base,cap,hv,_,_⟩:=hr.len
    have hrun:(convert t t' (.slice base 0 cap)).run P w= .ok (.string ByteArray.empty) w:=by
     cases base with
     |none=>exact run_convert_bytes_nil w t el hu he 0 cap t' (zJ1 hk)
     |some ad=>
      obtain⟨b,off,sp⟩:=ad
      rw[run_convert_bytes_string w t t' el _ 0 cap hu he (zJ1 hk),run_bytesToString w _ 0 cap [] (by simp[loadCells,loadCellsFrom])]
      rfl
    simp only[Br,D7]at hv
    simp only[execOp,hv,Sem.run_bind,hrun,Result.andThen_ok,Sem.run_pure]
    rfl
   .obtain⟨s,b,o',cap,hv,hs',hu',_,_,_,hc⟩:=hr.flat (by simpa using h0)
    have hs1:s=1:=by
     obtain⟨n,rest,rfl⟩:=D4 h0
     exact(hu' [.int .u8 n] (by simp)).symm
    subst hs1
    have hrun:=run_convert_bytes_arg (P:=P) w t el hu he b o' xs.length cap xs rfl (fun i hi=>by
     obtain⟨y,hy,r⟩:=hc i (.int .u8 (xs.getD i 0)) (by
      have:=yM (rows:=xs.map fun n=> [V.int .u8 n]) i 0 hu' (by omega)
      rw[Nat.mul_one,Cb]at this
      rw[this]
      simp[A0 hi])
     have:y= .int .u8 (xs.getD i 0):=by cases r;rfl
     rw[<-this];exact hy) t' (zJ1 hk)
    simp only[Aq]at hv
    simp only[execOp,hv,Sem.run_bind,hrun,Result.andThen_ok,Sem.run_pure]
    rfl
  .trivial
 .trivial
def zw4 (fl:Option (Nat×Nat×Bool)) (x:V):R:=
 match fl,x with
 |some (off,s,true),.agg cs=>if off+s<=cs.length then .ok (.agg ((cs.drop off).take s))else .fail
 |some (off,_,false),.agg cs=>(match cs[off]? with|some v=> .ok v|none=> .fail)
 |_,_=> .fail
theorem xu0 {dst:Option Tmp} {ty:TypeId} {pos:String} {aft:Array Edge} {g:Option (Nat×Bool)} (t:TypeId) (x:Operand) (f:Nat) (h:Sim c nt e σ a w L β):
  ROk (zw4 (fldT P t f) (zF e x)) σ (Yield P c ⟨dst,.field t x f,ty,pos,aft,g⟩ a w L σ β):=by
 have hx:=h.eval x
 unfold zw4
 split
 .rename_i off s cs hf h1
  rw[h1]at hx
  split
  .rename_i hle
   obtain⟨xs,hv,hall⟩:=hx
   obtain⟨fs,fd,hu,hfd,rfl,hs,hb,h0⟩:=zS2 hf
   have hl:=hall.length
   refine Yield.pure h (x:= .agg ((xs.drop fd.offset).take s).toArray) ?_ ⟨_,rfl,(hall.drop _).take _⟩
   simp[execOp,hv,Instr.field,run_underlying hu,hfd,asAgg,part,zj8 hb,wR hs]
  .trivial
 .rename_i off s cs hf h1
  rw[h1]at hx
  split
  .rename_i v hv'
   obtain⟨xs,hv,hall⟩:=hx
   obtain⟨fs,fd,hu,hfd,rfl,hs,hb,h0⟩:=zS2 hf
   obtain⟨y,hy,r⟩:=hall.get _ _ hv'
   refine Yield.pure h (x:=y) ?_ (RdS.of_cell r)
   simp[execOp,hv,Instr.field,run_underlying hu,hfd,asAgg,part,zj8 hb,hy]
  .trivial
 .trivial
def isK (v:V):Bool:=zg3 v||(match v with| .ptr _ _| .elp _ _| .lsv _ _ _ _ _| .lsp _ _ _ _ _| .bsv _ _ _ _| .mp _=>true|_=>false)
theorem xW2 {v:V} {x:Value} (r:RdS w L σ β v x) (h:isK v=true):RdK w L σ β v x:=by
 cases v<;>first|exact r|simp[isK,zg3]at h
def zF5 (fn:Fn) (first:Nat) (caps:List V):R:=
 match fn with
 | .func f=>if first=0/\caps.all isK=true then .ok (.fn f caps)else .fail
 |_=> .fail
theorem xG0 {dst:Option Tmp} {ty:TypeId} {pos:String} {aft:Array Edge} {g:Option (Nat×Bool)} (fn:Fn) (first caps:Array Operand) (h:Sim c nt e σ a w L β):
  ROk (zF5 fn first.size (caps.toList.map (zF e))) σ (Yield P c ⟨dst,.makeFunc fn first caps,ty,pos,aft,g⟩ a w L σ β):=by
 unfold zF5
 split
 .rename_i f
  split
  .rename_i hc
   obtain⟨h0,hk⟩:=hc
   have hf:first= #[]:=D6 h0
   subst hf
   refine Yield.pure h (x:= .func (.func f) #[] (caps.toList.map a.eval).toArray) (by simp[execOp,Instr.makeFunc];apply Array.ext';simp) ⟨_,rfl, ?_⟩
   have: ∀l:List Operand,(l.map (zF e)).all isK=true->All2 (RdK w L σ β) (l.map (zF e)) (l.map a.eval):=by
    intro l
    induction l with
    |nil=>intro _;trivial
    |cons p l ih=>
     intro hl
     simp at hl
     exact⟨xW2 (h.eval p) hl.1,ih (by simpa using hl.2)⟩
   exact this _ hk
  .trivial
 .trivial
def zelT (P:Program) (t:TypeId):Option (List V):=
 match P.underlying t with
 |some (.slice el)=>za1 P el
 |_=>none
def zB9 (el:Option (Nat×Nat)) (zs:Option (List V)) (σ:St) (l m:V):R:=
 match el,zs,l,m with
 |some (s,by'),some z,.int .i64 n,.int .i64 k=> .needst (0<=n/\n<=k/\k.toNat*by'<=140737488355328) (.sl (.app σ.length) (List.replicate n.toNat z)) (σ++ [.app n.toNat s])
 |_,_,_,_=> .fail
theorem xt0 {z:Array Value} {s N:Nat} (hz:z.size=s) (hs:0<s) (k:Nat) (hk:k<N*s):((Array.range (N*s)).map (z[· %z.size]!))[k]? =some (z.toList[k%s]'(by simp[hz];exact D1 _ hs)):=by
 have hm:k%s<z.size:=by rw[hz];exact D1 _ hs
 have:k<(Array.range (N*s)).size:=by simpa using hk
 rw[Array.getElem?_map,Ar this]
 simp[hz,getElem!_pos z (k%s) hm]
theorem yF7 {t:TypeId} {s by':Nat} {z:List V} {n k:Int} (hel:elT P t=some (s,by')) (hz:zelT P t=some z) (h0:0<=n) (hle:n<=k) (hb:k.toNat*by'<=140737488355328) (w:World) (L:Nat->Nat):
  ∃(el:TypeId) (cells:Array Value),(Instr.makeSlice t (.int .i64 n) (.int .i64 k)).run P w= .ok (.slice (some ⟨w.heap.size,0,none⟩) n.toNat k.toNat) (w.alloc (.cells cells el))/\cells.size=k.toNat*s/\0<s/\
   uni s (List.replicate n.toNat z)/\All2 (RdP w L) (List.replicate n.toNat z).flatten (cells.toList.take (n.toNat*s)):=by
 obtain⟨el,i,zz,hu,hi,hzz,rfl,rfl,hzs,hs,hby⟩:=zd8 hel
 unfold zelT at hz
 rw[hu]at hz
 obtain⟨i',zz',hi',hzz',hone,rfl⟩:=zE0 hz
 rw[hi]at hi';cases hi'
 rw[hzz]at hzz';cases hzz'
 have hk:k.toNat<=140737488355328:=Ay (Nat.le_mul_of_pos_right _ hby) hb
 have hw1:IntKind.i64.wrap n=n:=by rw[IntKind.wrap_i64];omega
 have hw2:IntKind.i64.wrap k=k:=by rw[IntKind.wrap_i64];omega
 have hcast:(i.bytes:Int)*k=((k.toNat*i.bytes:Nat):Int):=by
  rw[Int.natCast_mul,Int.toNat_of_nonneg (by omega),Int.mul_comm]
 have hn1: ¬(281474976710656<(i.bytes:Int)*k):=by rw[hcast];omega
 have q1: ¬k<0:=by omega
 have q2: ¬n<0:=by omega
 have q3: ¬k<n:=by omega
 let cells:Array Value:=(Array.range (k.toNat*i.size)).map (zz.cells[· %zz.cells.size]!)
 have hrun:(Instr.makeSlice t (.int .i64 n) (.int .i64 k)).run P w= .ok (.slice (some ⟨w.heap.size,0,none⟩) n.toNat k.toNat) (w.alloc (.cells cells el)):=by
  by_cases hkz:k.toNat*i.size=0
  .have: ∀f:Nat->Value,(Array.range 0).map f= #[]:=fun f=>by apply D6;simp
   have hc0:cells= #[]:=by simp only[cells,hkz];exact this _
   rw[hc0]
   simp[Instr.makeSlice,run_underlying hu,asInt,asIntOf,typeInfo,hi,hw1,hw2,hn1,q1,q2,q3,sizeOf,hkz,newRow,this]
  .simp[Instr.makeSlice,run_underlying hu,asInt,asIntOf,typeInfo,hi,hw1,hw2,hn1,q1,q2,q3,sizeOf,hkz,newRow,zeroValue,hzz,cells]
 have hzl:zz.cells.toList.length=i.size:=by simp[hzs]
 have hur:uni i.size (List.replicate n.toNat (zz.cells.toList.map zc1)):=fun r hr=>by
  rw[(List.mem_replicate.1 hr).2];simp[hzs]
 have hnk:n.toNat<=k.toNat:=by omega
 have hmul:n.toNat*i.size<=k.toNat*i.size:=Ao _ hnk
 have hlen:(List.replicate n.toNat (zz.cells.toList.map zc1)).length=n.toNat:=by simp
 have hall:All2 (RdP w L) (List.replicate n.toNat (zz.cells.toList.map zc1)).flatten (cells.toList.take (n.toNat*i.size)):=by
  refine All2.of ?_ fun j p x hp hx=> ?_
  .rw[yA hur,hlen];simp only[cells,C2,Bz,Array.size_map,Array.size_range];omega
  .have hjl:j<n.toNat*i.size:=by
    have:=(A1.1 hp).1
    rwa [yA hur,hlen]at this
   have hj1:j/i.size<n.toNat:=by rw[Cj hs];exact hjl
   have hj2:j%i.size<i.size:=D1 _ hs
   have hjk:j=j/i.size*i.size+j%i.size:=by rw[Bw];exact(Di j i.size).symm
   rw[hjk,yM _ _ hur hj2,List.getElem?_replicate,if_pos hj1]at hp
   simp only[As,Az]at hp
   rw[Ae,if_pos hjl,Aj]at hx
   have:=xt0 hzs hs j (show j<k.toNat*i.size by omega)
   simp only[cells]at hx
   rw[this]at hx
   simp only[Option.some.injEq]at hx
   rw[A0 (by rw[hzl];exact hj2)]at hp
   simp only[B3,Option.some.injEq]at hp
   rw[<-hp,<-hx]
   exact(zu7 _ (hone _ (A8 _))).1
 exact⟨el,cells,hrun,by simp[cells],hs,hur,hall⟩
theorem xG2 {dst:Option Tmp} {ty:TypeId} {pos:String} {aft:Array Edge} {g:Option (Nat×Bool)} (t:TypeId) (l m:Operand) (h:Sim c nt e σ a w L β):
  ROk (zB9 (elT P t) (zelT P t) σ (zF e l) (zF e m)) σ (Yield P c ⟨dst,.makeSlice t l m,ty,pos,aft,g⟩ a w L σ β):=by
 have hl:=h.eval l
 have hm:=h.eval m
 unfold zB9
 split
 .rename_i s by' z n k hel hz e1 e2
  rw[e1]at hl;rw[e2]at hm
  have e1:=yI hl;have e2:=yI hm
  rintro⟨h0,hle,hb⟩
  obtain⟨el,cells,hrun,hsz,hs,hur,hall⟩:=yF7 hel hz h0 hle hb w L
  have hlen:(List.replicate n.toNat z).length=n.toNat:=by simp
  obtain⟨hmem,hle',hrd⟩:=h.mem.appPush (s:=s) (cap:=k.toNat) (arr:=cells) (T:=el) hs hur hall (by rw[hlen];omega) (by rw[hsz];exact A2 _) (fun j x hj=>by
   rw[Ae]at hj
   split at hj
   .simpa using hj
   .cases hj)
  rw[hlen]at hmem hrd hle'
  refine⟨_,_,_,_,.inl (by simp only[execOp,e1,e2,Sem.run_bind,hrun,Result.andThen_ok,Sem.run_pure]),hmem,hle',Ext.push _ _ h.mem.len _ _,hrd,n.toNat,s,by simp,by rw[hlen];exact A2 _,fun _=> ?_,hur⟩
  rw[<-h.mem.len];simp
 .trivial
def zs3 (el:Option (Nat×Nat)) (zs:Option (List V)) (σ:St) (l m:V):R:=
 match el,zs,l,m with
 |some (s,by'),some z,.int .i64 n,.int .i64 k=> .needst (0<=n/\n<=k/\k.toNat*by'<=140737488355328) (.lsv σ.length s n.toNat 0 n.toNat) (σ++ [.lst (List.replicate n.toNat z) s])
 |_,_,_,_=> .fail
theorem zP0 {w':World} {L':Nat->Nat} {rows:List (List V)} {s cap:Nat} {a0:Option Addr} (hl:β.length=σ.length) (hcap:rows.length<=cap) (ha:0<cap-> ∃b,a0=some ⟨b,0,none⟩):
  RdS w' L' (σ++ [.lst rows s]) (β++ [.slice a0 rows.length cap]) (.lsv σ.length s rows.length 0 rows.length) (.slice a0 rows.length cap):=by
 refine⟨a0,cap,rfl,⟨hcap,by omega⟩,fun hp=> ?_,.inr ⟨rows,by simp,A2 _,fun _=>⟨a0,cap, ?_,rfl,A3 _,fun hp=> ?_⟩⟩⟩
 .obtain⟨b,rfl⟩:=ha (by omega);exact⟨b,0,rfl⟩
 .rw[<-hl];simp
 .obtain⟨b,rfl⟩:=ha hp;exact⟨b,rfl,by rw[Ca]⟩
theorem xu1 {dst:Option Tmp} {ty:TypeId} {pos:String} {aft:Array Edge} {g:Option (Nat×Bool)} (t:TypeId) (l m:Operand) (h:Sim c nt e σ a w L β):
  ROk (zs3 (elT P t) (zelT P t) σ (zF e l) (zF e m)) σ (Yield P c ⟨dst,.makeSlice t l m,ty,pos,aft,g⟩ a w L σ β):=by
 have hl:=h.eval l
 have hm:=h.eval m
 unfold zs3
 split
 .rename_i s by' z n k hel hz e1 e2
  rw[e1]at hl;rw[e2]at hm
  have e1:=yI hl;have e2:=yI hm
  rintro⟨h0,hle,hb⟩
  obtain⟨el,cells,hrun,hsz,hs,hur,hall⟩:=yF7 hel hz h0 hle hb w L
  have hlen:(List.replicate n.toNat z).length=n.toNat:=by simp
  obtain⟨hmem,hle',hext⟩:=h.mem.lstPush (s:=s) (cap:=k.toNat) (arr:=cells) (T:=el) hs hur (by rw[hlen];exact hall.imp fun _ _=>RdC.of_pure) (by rw[hlen];omega) (by rw[hsz];exact A2 _)
  have hrd:=zP0 (w':=w.alloc (.cells cells el)) (L':=L) (s:=s) (rows:=List.replicate n.toNat z) (cap:=k.toNat) (a0:=some ⟨w.heap.size,0,none⟩) h.mem.len (by rw[hlen];omega) (fun _=>⟨_,rfl⟩)
  rw[hlen]at hmem hext hrd
  exact⟨_,_,_,_,.inl (by simp only[execOp,e1,e2,Sem.run_bind,hrun,Result.andThen_ok,Sem.run_pure]),hmem,hle',hext,hrd⟩
 .trivial
theorem xF4 (h:Mem c w L σ β) {id s p:Nat} {rows r2:List (List V)} {ad:Option Addr} {lo n m cap:Nat} {x:Value} (hσ:σ[id]? =some (.lst rows s)) (hx:RdS w L σ β (.lsv id s n lo m) x) (hv:x= .slice ad m cap) (hn:rows.length=n) (hu2:uni s r2)
  {news:List Value} (hall:All2 (RdC w L σ β) r2.flatten news) (hone: ∀u∈news,u.oneCell'=true) (hp:p=lo) (hk:r2.length<=m) (hlm:lo+m<=n) (hpos:0<r2.length):
  ∃a0 w',ad=some a0/\(storeCells a0 news 0).run P w= .ok () w'/\Mem c w' L (σ.set id (.lst (rows.take p++r2++rows.drop (p+r2.length)) s)) β/\Le w L w' L/\Ext σ β (σ.set id (.lst (rows.take p++r2++rows.drop (p+r2.length)) s)) β:=by
 subst hp
 obtain⟨ad',cap',e0,hmc,_,hc⟩:=hx
 rw[hv]at e0;cases e0
 rcases hc with hd|⟨rows2,hσ2,hn2,hb⟩
 .rw[hσ]at hd;cases hd
 .rw[hσ]at hσ2;cases hσ2
  obtain⟨b0,c0,hβ,hcc,hlo,hadr⟩:=hb hn.symm
  have hlc:p<c0:=by clear hb hadr;omega
  obtain⟨k0,rfl,rfl⟩:=hadr hlc
  clear hb hadr
  obtain⟨a2,cap2,e1,hcp2,hs2,hur,_⟩:=h.objs id _ _ hσ hβ
  cases e1
  have hlen2:(rows.take p++r2++rows.drop (p+r2.length)).length=rows.length:=by simp;omega
  have hoff:p*s<=rows.length*s:=Ao _ (by omega)
  obtain⟨arr,T,fz,hh,hf,hfit,hmem,hle,hext⟩:=h.lstPut (off:=p*s) (vs:=r2.flatten) (rows2:=rows.take p++r2++rows.drop (p+r2.length)) hσ hβ (by omega)
   hall hoff (fun r hr=>by
    rcases B4.1 hr with hr|hr
    .rcases B4.1 hr with hr|hr
     .exact hur r (Bn hr)
     .exact hu2 r hr
    .exact hur r (D2 hr)) (yj1 hur hu2 (by omega)) (by rw[hlen2];exact A2 _) (by rw[hlen2];omega)
  have hset:β.set id (.slice (some ⟨k0,0,none⟩) (rows.take p++r2++rows.drop (p+r2.length)).length c0)=β:=yF _ _ _ (by rw[hlen2,hn];exact hβ)
  rw[hset]at hmem hext
  have hst:=xR P k0 (p*s) T fz news 0 arr w hh hf (by omega) hone
  exact⟨_,_,rfl,hst,hmem,hle,hext⟩
def zs2 (sl:Option Nat) (zs:Option (List V)) (σ:St) (x:V):R:=
 match zs,x with
 |some z,.lsv id s n lo m=>(match σ[id]? with
  |some (.lst rows s')=> .needst (sl=some s/\s'=s/\rows.length=n/\lo+m<=n) (.tup []) (σ.set id (.lst (rows.take lo++List.replicate m z++rows.drop (lo+m)) s))
  |_=> .fail)
 |_,_=> .fail
theorem xt7 {dst:Option Tmp} {ty:TypeId} {pos:String} {aft:Array Edge} {g:Option (Nat×Bool)} (t:TypeId) (x:Operand) (h:Sim c nt e σ a w L β):
  ROk (zs2 ((elT P t).map (·.1)) (zelT P t) σ (zF e x)) σ (Yield P c ⟨dst,.call ⟨.builtin .clear, #[x], #[t]⟩,ty,pos,aft,g⟩ a w L σ β):=by
 have hx:=h.eval x
 unfold zs2
 split
 .rename_i z id s n lo m hz h1
  rw[h1]at hx
  split
  .rename_i rows s' hσ
   rintro⟨hsl,rfl,hn,hlm⟩
   obtain⟨by',hel⟩: ∃b,elT P t=some (s',b):=by
    cases hq:elT P t with
    |none=>simp[hq]at hsl
    |some q=>obtain⟨q1,q2⟩:=q;simp[hq]at hsl;subst hsl;exact⟨q2,rfl⟩
   obtain⟨el,i,zz,hu,hi,hzz,rfl,rfl,hzs,hs,hby⟩:=zd8 hel
   unfold zelT at hz
   rw[hu]at hz
   obtain⟨i',zz',hi',hzz',hone,rfl⟩:=zE0 hz
   rw[hi]at hi';cases hi'
   rw[hzz]at hzz';cases hzz'
   have hx0:=hx
   obtain⟨ad,cap,hv,hmc,hpos,_⟩:=hx0
   by_cases hm0:m=0
   .subst hm0
    have hset:σ.set id (.lst (rows.take lo++List.replicate 0 (zz.cells.toList.map zc1)++rows.drop (lo+0)) i.size)=σ:=yF _ _ _ (by simp[hσ])
    rw[hset]
    refine⟨.tuple #[],w,L,β,.inl ?_,h.mem,Le.refl _ _,Ext.refl _ _,[],rfl,trivial⟩
    cases ad<;>simp[execOp,resolve,invoke,builtin,Builtin.clear_,run_underlying hu,hv]
   .have hzall:All2 (RdC w L σ β) (List.replicate m (zz.cells.toList.map zc1)).flatten (Builtin.zeroCells zz.cells m).toList:=by
     have hur:uni i.size (List.replicate m (zz.cells.toList.map zc1)):=fun r hr=>by
      rw[(List.mem_replicate.1 hr).2];simp[hzs]
     refine All2.of ?_ fun j p x hp hx=> ?_
     .rw[yA hur];simp[size_zeroCells,hzs]
     .have hjl:j<m*i.size:=by
       have:=(A1.1 hp).1
       rw[yA hur]at this
       simpa using this
      have hj1:j/i.size<m:=by rw[Cj hs];exact hjl
      have hj2:j%i.size<i.size:=D1 _ hs
      have hjk:j=j/i.size*i.size+j%i.size:=by rw[Bw];exact(Di j i.size).symm
      rw[hjk,yM _ _ hur hj2,List.getElem?_replicate,if_pos hj1]at hp
      simp only[As,Az]at hp
      have:=xt0 hzs hs j hjl
      rw[Aj]at hx
      unfold Builtin.zeroCells at hx
      rw[hzs]at hx this
      rw[this]at hx
      simp only[Option.some.injEq]at hx
      rw[A0 (by simpa[hzs]using hj2)]at hp
      simp only[B3,Option.some.injEq]at hp
      rw[<-hp,<-hx]
      exact RdC.of_pure (zu7 _ (hone _ (A8 _))).1
    have hl1:(List.replicate m (zz.cells.toList.map zc1)).length=m:=by simp
    obtain⟨a0,w',rfl,hst,hmem,hle,hext⟩:=xF4 (P:=P) h.mem (p:=lo) hσ hx hv hn (r2:=List.replicate m (zz.cells.toList.map zc1)) (fun r hr=>by
     rw[(List.mem_replicate.1 hr).2];simp[hzs]) hzall (fun u hu2=>by
      obtain⟨k,hk⟩:=Av.1 hu2
      have hkl:k<(List.replicate m (zz.cells.toList.map zc1)).flatten.length:=by rw[hzall.length];exact(A1.1 hk).1
      obtain⟨q,hq,rq⟩:=hzall.get k _ (A0 hkl)
      rw[hk]at hq;cases hq
      exact rq.oneCell) rfl (by rw[hl1];exact A2 _) hlm (by rw[hl1];omega)
    rw[hl1]at hmem hext
    obtain⟨m',rfl⟩: ∃m',m=m'+1:=⟨m - 1,by omega⟩
    refine⟨.tuple #[],w',L,β,.inl ?_,hmem,hle,hext,[],rfl,trivial⟩
    simp[execOp,resolve,invoke,builtin,Builtin.clear_,run_underlying hu,hv,zeroValue,typeInfo,hi,hzz,hst]
  .trivial
 .trivial
def wT (es:Option Nat) (len:Nat) (σ:St) (parts:List (Nat×V)):R:=
 match es with
 |some s=>if zm3 0 parts=true/\parts.length=len then .needst ((∀p∈parts,(xD p.2).length=s)/\len*s<=16777216/\0<s) (.lsv σ.length s len 0 len) (σ++ [.lst (parts.map fun p=>xD p.2) s])else .fail
 |none=> .fail
theorem yh1 {dst:Option Tmp} {ty:TypeId} {pos:String} {aft:Array Edge} {g:Option (Nat×Bool)} (t:TypeId) (len:Nat) (ps:Array (Nat×Operand)) (h:Sim c nt e σ a w L β):
  ROk (wT ((elT P t).map (·.1)) len σ (ps.toList.map fun p=>(p.1,zF e p.2))) σ (Yield P c ⟨dst,.buildSlice t len ps,ty,pos,aft,g⟩ a w L σ β):=by
 unfold wT
 split
 .rename_i s hes
  split
  .rename_i hord
   obtain⟨ho,hlen⟩:=hord
   rintro⟨hp,hsm,hs⟩
   obtain⟨el,hel⟩: ∃b,elT P t=some (s,b):=by
    cases hq:elT P t with
    |none=>simp[hq]at hes
    |some q=>obtain⟨q1,q2⟩:=q;simp[hq]at hes;subst hes;exact⟨q2,rfl⟩
   obtain⟨el,i,z,hu,hi,hz,rfl,_,hzs,_,_⟩:=zd8 hel
   have hparts:=All2.of_parts h ps.toList
   have hrun: ∀arr',Instr.fill (fun k=>some (k*i.size,i.size)) ((Array.range (len*i.size)).map (z.cells[· %z.cells.size]!)) (ps.map fun(k,x)=>(k,a.eval x)).toList=some arr'->
     (Instr.buildSlice t len (ps.map fun(k,x)=>(k,a.eval x))).run P w= .ok (.slice (some ⟨w.heap.size,0,none⟩) len len) (w.alloc (.cells arr' el)):=by
    intro arr' hf
    by_cases h0:len*i.size=0
    .have hzl:len=0:=by
      rcases Nat.mul_eq_zero.1 h0 with h|h
      .exact h
      .omega
     subst hzl
     simp at hlen
     subst hlen
     simp[Instr.fill]at hf
     subst hf
     have hr0: ∀f:Nat->Value,(Array.range 0).map f= #[]:=fun f=>by apply D6;simp
     simp[Instr.buildSlice,run_underlying hu,sizeOf,typeInfo,hi,Instr.fill,newRow,hr0]
    .exact run_buildSlice w t el len _ arr' i z hu hi hz (by omega) h0 hf
   have hmap:(ps.map fun(k,x)=>(k,a.eval x)).toList=ps.toList.map fun p=>(p.1,a.eval p.2):=by simp
   obtain⟨arr',hf,hsz,hall⟩:=ye1 (s:=i.size) _ _ 0 ((Array.range (len*i.size)).map (z.cells[· %z.cells.size]!)) [] ho hp hparts (by simp at hlen⊢;rw[hlen]) (by simp) (by simp[All2])
   rw[<-hmap]at hf
   have hr:=hrun arr' hf
   have hl2:((ps.toList.map fun p=>(p.1,zF e p.2)).map fun p=>xD p.2).length=len:=by rw[Aq,hlen]
   have hur:uni i.size ((ps.toList.map fun p=>(p.1,zF e p.2)).map fun p=>xD p.2):=fun r hr=>by
    obtain⟨p,hp',rfl⟩:=Ac.1 hr
    exact hp p hp'
   simp only[Ce]at hall
   have hasz:arr'.size=len*i.size:=by rw[hsz];simp
   obtain⟨hmem,hle',hext⟩:=h.mem.lstPush (s:=i.size) (cap:=len) (arr:=arr') (T:=el) hs hur (by rw[hl2,<-hasz,Au (by simp)];exact hall) (by rw[hl2];exact A2 _) (by rw[hasz];exact A2 _)
   have hrd:=zP0 (w':=w.alloc (.cells arr' el)) (L':=L) (s:=i.size) (rows:=(ps.toList.map fun p=>(p.1,zF e p.2)).map fun p=>xD p.2) (cap:=len) (a0:=some ⟨w.heap.size,0,none⟩) h.mem.len (by rw[hl2];exact A2 _) (fun _=>⟨_,rfl⟩)
   rw[hl2]at hmem hext hrd
   exact⟨_,_,_,_,.inl (by simp[execOp,hr]),hmem,hle',hext,hrd⟩
  .trivial
 .trivial
def zw3 (ks kd:Option Kd) (σ:St) (x:V):R:=
 match kd,x with
 |some .bytes,.str s=>if ks=some .str then .st (.lsv σ.length 1 s.length 0 s.length) (σ++ [.lst (zP s) 1])else .fail
 |_,_=> .fail
theorem xt8 {dst:Option Tmp} {ty:TypeId} {pos:String} {aft:Array Edge} {g:Option (Nat×Bool)} (t t':TypeId) (x:Operand) (h:Sim c nt e σ a w L β):
  ROk (zw3 (kdT P t) (kdT P t') σ (zF e x)) σ (Yield P c ⟨dst,.convert t t' x,ty,pos,aft,g⟩ a w L σ β):=by
 have hx:=h.eval x
 unfold zw3
 split
 .rename_i s hk h1
  rw[h1]at hx
  split
  .rename_i hs
   obtain⟨el,hu,he⟩:=zS7 hk
   have hr:=run_bytes_of_string (P:=P) w t t' el ⟨s.toArray⟩ (zJ1 hs) hu he
   have hd:=h.mem.drew
   have hge:=grownCap_ge w (ByteArray.mk s.toArray).size 0 el
   generalize hcap:grownCap w (ByteArray.mk s.toArray).size 0 el=cap at hr hge
   have hge2:s.length<=cap:=by rw[<-zk7 s];exact hge
   generalize harr:bytesRow ⟨s.toArray⟩ cap=arr at hr
   have hsz:arr.size=cap:=by rw[<-harr];simp[bytesRow];rw[zk7];omega
   have hl:(zP s).length=s.length:=by simp[zP]
   have hall:All2 (RdC w.drew L σ β) (zP s).flatten (arr.toList.take ((zP s).length*1)):=by
    have hb:arr.toList.take ((zP s).length*1)=byteCells ⟨s.toArray⟩:=by
     rw[<-harr]
     simp[bytesRow,byteCells,zP]
    rw[hb]
    exact(zo6 s).imp fun _ _=>RdC.of_pure
   obtain⟨hmem,hle',hext⟩:=hd.1.lstPushF (s:=1) (cap:=cap) (arr:=arr) (T:=el) (fz:=(arr.size,arr.size+1)) ⟨fun o ho q=>by simp only at q;omega,.inl rfl⟩ (by omega) (zN3 s) hall (by rw[hl];exact hge2) (by omega)
   have hrd:=zP0 (w':=w.drew.alloc (.cells arr el (arr.size,arr.size+1))) (L':=L) (s:=1) (rows:=zP s) (cap:=cap) (a0:=some ⟨w.drew.heap.size,0,none⟩) h.mem.len (by rw[hl];exact hge2) (fun _=>⟨_,rfl⟩)
   rw[hl]at hmem hext hrd
   refine⟨_,_,_,_,.inl ?_,hmem,hd.2.trans hle',hext,hrd⟩
   simp only[execOp,wK hx,Sem.run_bind,hr,Result.andThen_ok,Sem.run_pure]
   rw[zk7]
   rfl
  .trivial
 .trivial
end
end Go.Vx
