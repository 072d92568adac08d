/-
  Operations over trees: maps, and loops over them.
  No condition: a library text; nothing of the program is named.
-/
import Derived.Test.YtefbicjgbaaieaaGreatPAC
import Derived.Maps.RangeRun
set_option maxHeartbeats 8000000
namespace Go.Vx
open Go
section
variable {P:Program} {c:Ctx} {nt:Nat} {e:Env} {σ:St} {a:Act} {w:World} {L:Nat->Nat} {β:List Value} {o:Oper}
variable {dst:Option Tmp}{ty:TypeId}{aft:Array Edge}{g:Option (Nat×Bool)}{t:TypeId}
def zq0:List V->UInt8
 | [.int _ n]=>UInt8.ofNat n.toNat
 |_=>0
def zP3 (rows:List (List V)):Prop:= ∀r∈rows,∃n,r= [.int .u8 n]
theorem wT (s:List UInt8):zP3 (zN s):=fun r hr=>by
 obtain⟨b,_,rfl⟩:=Ag.1 hr;exact⟨_,rfl⟩
theorem zj6 (s:List UInt8):(zN s).map zq0=s:=by
 unfold zN
 rw[Bw]
 conv=>rhs;rw[<-List.map_id s]
 apply Bs
 intro b _
 simp[zq0]
def zC6 (ks kd:Option Kd) (x:V):R:=
 match kd,x with
 |some (.int k),.int _ n=>if ks.isSome then .ok (.int k (k.wrap n))else .fail
 |some .str,.str s=>if ks.isSome then .ok (.str s)else .fail
 |some .bytes,.str s=>if ks=some .str then .ok (.sl .ro (zN s))else .fail
 |some .str,.sl _ rows=>if ks=some .bytes then .need (zP3 rows) (.str (rows.map zq0))else .fail
 |_,_=> .fail
theorem xG4 {k:IntKind} (h:kdT P t=some (.int k)):P.underlying t=some (.int k):=by
 unfold kdT at h
 split at h<;>(try split at h)<;>simp at h
 subst h;assumption
theorem zJ8 (h:kdT P t=some .str):P.underlying t=some .string:=by
 unfold kdT at h
 split at h<;>(try split at h)<;>simp at h
 assumption
theorem zT4 (h:kdT P t=some .bytes): ∃el,P.underlying t=some (.slice el)/\P.underlying el=some (.int .u8):=by
 unfold kdT at h
 split at h<;>(try split at h)<;>simp at h
 exact⟨_,by assumption,by assumption⟩
theorem yF1 (h:(kdT P t).isSome=true): ∃d,P.underlying t=some d:=by
 unfold kdT at h
 split at h<;>first|exact⟨_,by assumption⟩|simp at h
theorem xj8 {rows:List (List V)} (h:zP3 rows): ∃xs:List Int,rows=xs.map (fun n=> [V.int .u8 n]):=by
 induction rows with
 |nil=>exact⟨[],rfl⟩
 |cons r rows ih=>
  obtain⟨n,hn⟩:=h r sm
  obtain⟨xs,hx⟩:=ih fun q hq=>h q (by simp[hq])
  exact⟨n::xs,by simp[hn,hx]⟩
theorem xH5 {pos:String} (t t':TypeId) (x:Operand) (h:Sim c nt e σ a w L β):
  ROk (zC6 (kdT P t) (kdT P t') (zD e x)) σ (Yield P c ⟨dst,.convert t t' x,ty,pos,aft,g⟩ a w L σ β):=by
 have hx:=h.eval x
 unfold zC6
 split
 .rename_i k k' n hk h1
  rw[h1]at hx
  split
  .rename_i hs
   obtain⟨d,hd⟩:=yF1 hs
   exact Yield.pure h (x:= .int k (k.wrap n)) (by simp[execOp,yE hx,convert,run_underlying hd,run_underlying (xG4 hk),Conv.intToInt]) (RdP.int _ _)
  .trivial
 .rename_i s hk h1
  rw[h1]at hx
  split
  .rename_i hs
   obtain⟨d,hd⟩:=yF1 hs
   exact Yield.pure h (x:= .string ⟨s.toArray⟩) (by simp[execOp,wM hx,convert,run_underlying hd,run_underlying (zJ8 hk)]) (RdP.str _)
  .trivial
 .rename_i s hk h1
  rw[h1]at hx
  split
  .rename_i hs
   obtain⟨el,hu,he⟩:=zT4 hk
   have hr:=run_bytes_of_string (P:=P) w t t' el ⟨s.toArray⟩ (zJ8 hs) hu he
   have hd:=h.mem.drew
   obtain⟨h1,h2⟩:=hd.1.alloc (.cells (bytesRow ⟨s.toArray⟩ (grownCap w (ByteArray.mk s.toArray).size 0 el)) el ((bytesRow ⟨s.toArray⟩ (grownCap w (ByteArray.mk s.toArray).size 0 el)).size,(bytesRow ⟨s.toArray⟩ (grownCap w (ByteArray.mk s.toArray).size 0 el)).size+1)) s.length
   refine⟨_,_,_,β,.inl (by simp only[execOp,wM hx,Sem.run_bind,hr,Result.andThen_ok,Sem.run_pure];rfl),h1,hd.2.trans h2,Ext.refl _ _, ?_⟩
   have ab:=grownCap_ge w (ByteArray.mk s.toArray).size 0 el
   have hl:(zN s).length=s.length:=by simp[zN]
   have:RdP (w.drew.alloc (.cells (bytesRow ⟨s.toArray⟩ (grownCap w (ByteArray.mk s.toArray).size 0 el)) el ((bytesRow ⟨s.toArray⟩ (grownCap w (ByteArray.mk s.toArray).size 0 el)).size,(bytesRow ⟨s.toArray⟩ (grownCap w (ByteArray.mk s.toArray).size 0 el)).size+1))) (yU L w.drew.heap.size s.length) (.sl .ro (zN s)) (.slice (some ⟨w.drew.heap.size,0,none⟩) (zN s).length (grownCap w (ByteArray.mk s.toArray).size 0 el)):=by
    refine .of_row (xs:=byteCells ⟨s.toArray⟩) (s:=1) om (zO0 s) (by rw[hl];simp[yU]) (by rw[hl];rw[zl7]at ab⊢;exact ab) (fun _=>sm) (fun q=>by cases q) (yD _ _) (fun k v hk=> ?_) (zp8 s)
    have ag:=(A5.1 hk).1
    rw[Af]
    unfold bytesRow
    rw[Ds (by simpa[byteCells]using ag)]
    simpa[byteCells]using hk
   rw[hl,<-zl7 s]at this
   rw[zl7 s]at this⊢
   exact this
  .trivial
 .rename_i gg rows hk h1
  rw[h1]at hx
  split
  .rename_i hs
   obtain⟨el,hu,he⟩:=zT4 hs
   intro hb
   obtain⟨xs,rfl⟩:=xj8 hb
   have hr:=zw4 hx
   have ae:(xs.map fun n=> [V.int .u8 n]).map zq0=xs.map fun n:Int=>UInt8.ofNat n.toNat:=by rw[Bw];rfl
   rw[ae]
   refine Yield.pure h (x:= .string ⟨(xs.map fun n:Int=>UInt8.ofNat n.toNat).toArray⟩) ?_ (RdP.str _)
   by_cases h0:xs= []
   .subst h0
    obtain⟨base,cap,hv,_,_⟩:=hr.len
    have aa:(convert t t' (.slice base 0 cap)).run P w= .ok (.string ByteArray.empty) w:=by
     cases base with
     |none=>exact run_convert_bytes_nil w t el hu he 0 cap t' (zJ8 hk)
     |some ad=>
      obtain⟨b,off,sp⟩:=ad
      rw[run_convert_bytes_string w t t' el _ 0 cap hu he (zJ8 hk),run_bytesToString w _ 0 cap [] (by simp[loadCells,loadCellsFrom])]
      rfl
    simp only[Bx,Db]at hv
    simp only[execOp,hv,Sem.run_bind,aa,Result.andThen_ok,Sem.run_pure]
    rfl
   .obtain⟨s,b,o',cap,hv,ai,af,_,_,_,hc⟩:=hr.flat (by simpa using h0)
    have ah:s=1:=by
     obtain⟨n,rest,rfl⟩:=D6 h0
     exact(af [.int .u8 n] sm).symm
    subst ah
    have aa:=run_convert_bytes_arg (P:=P) w t el hu he b o' xs.length cap xs rfl (fun i hi=>by
     obtain⟨y,hy,r⟩:=hc i (.int .u8 (xs.getD i 0)) (by
      have:=yI (rows:=xs.map fun n=> [V.int .u8 n]) i 0 af om
      rw[Nat.mul_one,Ch]at this
      rw[this]
      simp[A4 hi])
     have:y= .int .u8 (xs.getD i 0):=by cases r;rfl
     rw[<-this];exact hy) t' (zJ8 hk)
    simp only[Aw]at hv
    simp only[execOp,hv,Sem.run_bind,aa,Result.andThen_ok,Sem.run_pure]
    rfl
  .trivial
 .trivial
def zx6 (fl:Option (Nat×Nat×Bool)) (x:V):R:=
 match fl,x with
 |some (off,s,true),.agg cs=>if off+s<=cs.length then .ok (.agg ((cs.drop off).take s))else .fail
 |some (off,_,false),.agg cs=>(match cs[off]? with|some v=> .ok v|none=> .fail)
 |_,_=> .fail
theorem xv7 {pos:String} (t:TypeId) (x:Operand) (f:Nat) (h:Sim c nt e σ a w L β):
  ROk (zx6 (fldT P t f) (zD e x)) σ (Yield P c ⟨dst,.field t x f,ty,pos,aft,g⟩ a w L σ β):=by
 have hx:=h.eval x
 unfold zx6
 split
 .rename_i off s cs hf h1
  rw[h1]at hx
  split
  .rename_i hle
   obtain⟨xs,hv,aa⟩:=hx
   obtain⟨fs,fd,hu,ab,rfl,hs,hb,h0⟩:=zT0 hf
   have hl:=aa.length
   refine Yield.pure h (x:= .agg ((xs.drop fd.offset).take s).toArray) ?_ ⟨_,rfl,(aa.drop _).take _⟩
   simp[execOp,hv,Instr.field,run_underlying hu,ab,asAgg,part,zk5 hb,wV hs]
  .trivial
 .rename_i off s cs hf h1
  rw[h1]at hx
  split
  .rename_i v ad
   obtain⟨xs,hv,aa⟩:=hx
   obtain⟨fs,fd,hu,ab,rfl,hs,hb,h0⟩:=zT0 hf
   obtain⟨y,hy,r⟩:=aa.get _ _ ad
   refine Yield.pure h (x:=y) ?_ (RdS.of_cell r)
   simp[execOp,hv,Instr.field,run_underlying hu,ab,asAgg,part,zk5 hb,hy]
  .trivial
 .trivial
def isK (v:V):Bool:=zg8 v||(match v with| .ptr _ _| .elp _ _| .lsv _ _ _ _ _| .lsp _ _ _ _ _| .bsv _ _ _ _| .mp _=>true|_=>false)
theorem xY1 {v:V} {x:Value} (r:RdS w L σ β v x) (h:isK v=true):RdK w L σ β v x:=by
 cases v<;>first|exact r|simp[isK,zg8]at h
def zG3 (fn:Fn) (first:Nat) (caps:List V):R:=
 match fn with
 | .func f=>if first=0/\caps.all isK=true then .ok (.fn f caps)else .fail
 |_=> .fail
theorem xH6 {pos:String} (fn:Fn) (first caps:Array Operand) (h:Sim c nt e σ a w L β):
  ROk (zG3 fn first.size (caps.toList.map (zD e))) σ (Yield P c ⟨dst,.makeFunc fn first caps,ty,pos,aft,g⟩ a w L σ β):=by
 unfold zG3
 split
 .rename_i f
  split
  .rename_i hc
   obtain⟨h0,hk⟩:=hc
   have hf:first= #[]:=Da h0
   subst hf
   refine Yield.pure h (x:= .func (.func f) #[] (caps.toList.map a.eval).toArray) (by simp[execOp,Instr.makeFunc];apply Array.ext';simp) ⟨_,rfl, ?_⟩
   have: ∀l:List Operand,(l.map (zD e)).all isK=true->All2 (RdK w L σ β) (l.map (zD e)) (l.map a.eval):=by
    intro l
    induction l with
    |nil=>intro _;trivial
    |cons p l ih=>
     intro hl
     simp at hl
     exact⟨xY1 (h.eval p) hl.1,ih (by simpa using hl.2)⟩
   exact this _ hk
  .trivial
 .trivial
def zelT (P:Program) (t:TypeId):Option (List V):=
 match P.underlying t with
 |some (.slice el)=>za8 P el
 |_=>none
def zC8 (el:Option (Nat×Nat)) (zs:Option (List V)) (σ:St) (l m:V):R:=
 match el,zs,l,m with
 |some (s,by'),some z,.int .i64 n,.int .i64 k=> .needst (0<=n/\n<=k/\k.toNat*by'<=140737488355328) (.sl (.app σ.length) (List.replicate n.toNat z)) (σ++ [.app n.toNat s])
 |_,_,_,_=> .fail
theorem xu7 {z:Array Value} {s N:Nat} (hz:z.size=s) (hs:0<s) (k:Nat) (hk:k<N*s):((Array.range (N*s)).map (z[· %z.size]!))[k]? =some (z.toList[k%s]'(by simp[hz];exact Cv _ hs)):=by
 have hm:k%s<z.size:=by rw[hz];exact Cv _ hs
 have:k<(Array.range (N*s)).size:=by simpa using hk
 rw[Array.getElem?_map,Av this]
 simp[hz,getElem!_pos z (k%s) hm]
theorem yG2 {s ag:Nat} {z:List V} {n k:Int} (av:elT P t=some (s,ag)) (hz:zelT P t=some z) (h0:0<=n) (hle:n<=k) (hb:k.toNat*ag<=140737488355328) (w:World) (L:Nat->Nat):
  ∃(el:TypeId) (cells:Array Value),(Instr.makeSlice t (.int .i64 n) (.int .i64 k)).run P w= .ok (.slice (some ⟨w.heap.size,0,none⟩) n.toNat k.toNat) (w.alloc (.cells cells el))/\cells.size=k.toNat*s/\0<s/\
   uni s (List.replicate n.toNat z)/\All2 (RdP w L) (List.replicate n.toNat z).flatten (cells.toList.take (n.toNat*s)):=by
 obtain⟨el,i,zz,hu,hi,ah,rfl,rfl,ad,hs,aw⟩:=ze2 av
 unfold zelT at hz
 rw[hu]at hz
 obtain⟨i',a7,ai,ab,aj,rfl⟩:=zE9 hz
 rw[hi]at ai;cases ai
 rw[ah]at ab;cases ab
 have hk:k.toNat<=140737488355328:=B2 (Nat.le_mul_of_pos_right _ aw) hb
 have ak:IntKind.i64.wrap n=n:=by rw[IntKind.wrap_i64];omega
 have al:IntKind.i64.wrap k=k:=by rw[IntKind.wrap_i64];omega
 have ae:(i.bytes:Int)*k=((k.toNat*i.bytes:Nat):Int):=by
  rw[Int.natCast_mul,Int.toNat_of_nonneg om,Int.mul_comm]
 have an: ¬(281474976710656<(i.bytes:Int)*k):=by rw[ae];omega
 have q1: ¬k<0:=om
 have q2: ¬n<0:=om
 have q3: ¬k<n:=by omega
 let cells:Array Value:=(Array.range (k.toNat*i.size)).map (zz.cells[· %zz.cells.size]!)
 have ao:(Instr.makeSlice t (.int .i64 n) (.int .i64 k)).run P w= .ok (.slice (some ⟨w.heap.size,0,none⟩) n.toNat k.toNat) (w.alloc (.cells cells el)):=by
  by_cases af:k.toNat*i.size=0
  .have: ∀f:Nat->Value,(Array.range 0).map f= #[]:=fun f=>by apply Da;simp
   have ax:cells= #[]:=by simp only[cells,af];exact this _
   rw[ax]
   simp[Instr.makeSlice,run_underlying hu,asInt,asIntOf,typeInfo,hi,ak,al,an,q1,q2,q3,sizeOf,af,newRow,this]
  .simp[Instr.makeSlice,run_underlying hu,asInt,asIntOf,typeInfo,hi,ak,al,an,q1,q2,q3,sizeOf,af,newRow,zeroValue,ah,cells]
 have ay:zz.cells.toList.length=i.size:=by simp[ad]
 have aa:uni i.size (List.replicate n.toNat (zz.cells.toList.map zc6)):=fun r hr=>by
  rw[(List.mem_replicate.1 hr).2];simp[ad]
 have az:n.toNat<=k.toNat:=om
 have hmul:n.toNat*i.size<=k.toNat*i.size:=Ao _ az
 have hlen:(List.replicate n.toNat (zz.cells.toList.map zc6)).length=n.toNat:=sm
 have aq:All2 (RdP w L) (List.replicate n.toNat (zz.cells.toList.map zc6)).flatten (cells.toList.take (n.toNat*i.size)):=by
  refine All2.of ?_ fun j p x hp hx=> ?_
  .rw[zV aa,hlen];simp only[cells,Cd,C4,Array.size_map,Array.size_range];omega
  .have ar:j<n.toNat*i.size:=by
    have:=(A5.1 hp).1
    rwa [zV aa,hlen]at this
   have a1:j/i.size<n.toNat:=by rw[Cq hs];exact ar
   have au:j%i.size<i.size:=Cv _ hs
   have a6:j=j/i.size*i.size+j%i.size:=by rw[Bo];exact(Dl j i.size).symm
   rw[a6,yI _ _ aa au,List.getElem?_replicate,if_pos a1]at hp
   simp only[Ax,B3]at hp
   rw[Ai,if_pos ar,Aq]at hx
   have:=xu7 ad hs j (show j<k.toNat*i.size by omega)
   simp only[cells]at hx
   rw[this]at hx
   simp only[Option.some.injEq]at hx
   rw[A4 (by rw[ay];exact au)]at hp
   simp only[B9,Option.some.injEq]at hp
   rw[<-hp,<-hx]
   exact(zw0 _ (aj _ (Ac _))).1
 exact⟨el,cells,ao,by simp[cells],hs,aa,aq⟩
theorem xH8 {pos:String} (t:TypeId) (l m:Operand) (h:Sim c nt e σ a w L β):
  ROk (zC8 (elT P t) (zelT P t) σ (zD e l) (zD e m)) σ (Yield P c ⟨dst,.makeSlice t l m,ty,pos,aft,g⟩ a w L σ β):=by
 have hl:=h.eval l
 have hm:=h.eval m
 unfold zC8
 split
 .rename_i s aj z n k ah hz e1 e2
  rw[e1]at hl;rw[e2]at hm
  have e1:=yE hl;have e2:=yE hm
  rintro⟨h0,hle,hb⟩
  obtain⟨el,cells,ad,ai,hs,ae,af⟩:=yG2 ah hz h0 hle hb w L
  have hlen:(List.replicate n.toNat z).length=n.toNat:=sm
  obtain⟨aa,ab,ag⟩:=h.mem.appPush (s:=s) (cap:=k.toNat) (arr:=cells) (T:=el) hs ae af (by rw[hlen];omega) (by rw[ai];exact A6 _) (fun j x hj=>by
   rw[Ai]at hj
   split at hj
   .simpa using hj
   .cases hj)
  rw[hlen]at aa ag ab
  refine⟨_,_,_,_,.inl (by simp only[execOp,e1,e2,Sem.run_bind,ad,Result.andThen_ok,Sem.run_pure]),aa,ab,Ext.push _ _ h.mem.len _ _,ag,n.toNat,s,sm,by rw[hlen];exact A6 _,fun _=> ?_,ae⟩
  rw[<-h.mem.len];simp
 .trivial
def zt7 (el:Option (Nat×Nat)) (zs:Option (List V)) (σ:St) (l m:V):R:=
 match el,zs,l,m with
 |some (s,by'),some z,.int .i64 n,.int .i64 k=> .needst (0<=n/\n<=k/\k.toNat*by'<=140737488355328) (.lsv σ.length s n.toNat 0 n.toNat) (σ++ [.lst (List.replicate n.toNat z) s])
 |_,_,_,_=> .fail
theorem zP6 {w':World} {L':Nat->Nat} {rows:List (List V)} {s cap:Nat} {a0:Option Addr} (hl:β.length=σ.length) (hcap:rows.length<=cap) (ha:0<cap-> ∃b,a0=some ⟨b,0,none⟩):
  RdS w' L' (σ++ [.lst rows s]) (β++ [.slice a0 rows.length cap]) (.lsv σ.length s rows.length 0 rows.length) (.slice a0 rows.length cap):=by
 refine⟨a0,cap,rfl,⟨hcap,om⟩,fun hp=> ?_,.inr ⟨rows,sm,A6 _,fun _=>⟨a0,cap, ?_,rfl,A7 _,fun hp=> ?_⟩⟩⟩
 .obtain⟨b,rfl⟩:=ha om;exact⟨b,0,rfl⟩
 .rw[<-hl];simp
 .obtain⟨b,rfl⟩:=ha hp;exact⟨b,rfl,by rw[Cg]⟩
theorem xv8 {pos:String} (t:TypeId) (l m:Operand) (h:Sim c nt e σ a w L β):
  ROk (zt7 (elT P t) (zelT P t) σ (zD e l) (zD e m)) σ (Yield P c ⟨dst,.makeSlice t l m,ty,pos,aft,g⟩ a w L σ β):=by
 have hl:=h.eval l
 have hm:=h.eval m
 unfold zt7
 split
 .rename_i s ak z n k ah hz e1 e2
  rw[e1]at hl;rw[e2]at hm
  have e1:=yE hl;have e2:=yE hm
  rintro⟨h0,hle,hb⟩
  obtain⟨el,cells,ad,ai,hs,aj,ae⟩:=yG2 ah hz h0 hle hb w L
  have hlen:(List.replicate n.toNat z).length=n.toNat:=sm
  obtain⟨aa,af,ab⟩:=h.mem.lstPush (s:=s) (cap:=k.toNat) (arr:=cells) (T:=el) hs aj (by rw[hlen];exact ae.imp fun _ _=>RdC.of_pure) (by rw[hlen];omega) (by rw[ai];exact A6 _)
  have ag:=zP6 (w':=w.alloc (.cells cells el)) (L':=L) (s:=s) (rows:=List.replicate n.toNat z) (cap:=k.toNat) (a0:=some ⟨w.heap.size,0,none⟩) h.mem.len (by rw[hlen];omega) (fun _=>⟨_,rfl⟩)
  rw[hlen]at aa ab ag
  exact⟨_,_,_,_,.inl (by simp only[execOp,e1,e2,Sem.run_bind,ad,Result.andThen_ok,Sem.run_pure]),aa,af,ab,ag⟩
 .trivial
theorem xH0 (h:Mem c w L σ β) {id s p:Nat} {rows r2:List (List V)} {ad:Option Addr} {lo n m cap:Nat} {x:Value} (hσ:σ[id]? =some (.lst rows s)) (hx:RdS w L σ β (.lsv id s n lo m) x) (hv:x= .slice ad m cap) (hn:rows.length=n) (ah:uni s r2)
  {news:List Value} (ai:All2 (RdC w L σ β) r2.flatten news) (aj: ∀u∈news,u.oneCell'=true) (hp:p=lo) (hk:r2.length<=m) (ay:lo+m<=n) (ar:0<r2.length):
  ∃a0 w',ad=some a0/\(storeCells a0 news 0).run P w= .ok () w'/\Mem c w' L (σ.set id (.lst (rows.take p++r2++rows.drop (p+r2.length)) s)) β/\Le w L w' L/\Ext σ β (σ.set id (.lst (rows.take p++r2++rows.drop (p+r2.length)) s)) β:=by
 subst hp
 obtain⟨az,au,e0,a1,_,hc⟩:=hx
 rw[hv]at e0;cases e0
 rcases hc with hd|⟨rows2,ak,a6,hb⟩
 .rw[hσ]at hd;cases hd
 .rw[hσ]at ak;cases ak
  obtain⟨b0,c0,hβ,a7,a8,ab⟩:=hb hn.symm
  have ao:p<c0:=by clear hb ab;omega
  obtain⟨k0,rfl,rfl⟩:=ab ao
  clear hb ab
  obtain⟨a2,av,e1,aw,aA,ag,_⟩:=h.objs id _ _ hσ hβ
  cases e1
  have aa:(rows.take p++r2++rows.drop (p+r2.length)).length=rows.length:=by simp;omega
  have al:p*s<=rows.length*s:=Ao _ om
  obtain⟨arr,T,fz,hh,hf,ax,ae,hle,af⟩:=h.lstPut (off:=p*s) (vs:=r2.flatten) (rows2:=rows.take p++r2++rows.drop (p+r2.length)) hσ hβ om
   ai al (fun r hr=>by
    rcases Ba.1 hr with hr|hr
    .rcases Ba.1 hr with hr|hr
     .exact ag r (Bt hr)
     .exact ah r hr
    .exact ag r (D4 hr)) (yh2 ag ah om) (by rw[aa];exact A6 _) (by rw[aa];omega)
  have an:β.set id (.slice (some ⟨k0,0,none⟩) (rows.take p++r2++rows.drop (p+r2.length)).length c0)=β:=yB _ _ _ (by rw[aa,hn];exact hβ)
  rw[an]at ae af
  have aq:=xQ P k0 (p*s) T fz news 0 arr w hh hf om aj
  exact⟨_,_,rfl,aq,ae,hle,af⟩
def zt6 (sl:Option Nat) (zs:Option (List V)) (σ:St) (x:V):R:=
 match zs,x with
 |some z,.lsv id s n lo m=>(match σ[id]? with
  |some (.lst rows s')=> .needst (sl=some s/\s'=s/\rows.length=n/\lo+m<=n) (.tup []) (σ.set id (.lst (rows.take lo++List.replicate m z++rows.drop (lo+m)) s))
  |_=> .fail)
 |_,_=> .fail
theorem xv4 {pos:String} (t:TypeId) (x:Operand) (h:Sim c nt e σ a w L β):
  ROk (zt6 ((elT P t).map (·.1)) (zelT P t) σ (zD e x)) σ (Yield P c ⟨dst,.call ⟨.builtin .clear, #[x], #[t]⟩,ty,pos,aft,g⟩ a w L σ β):=by
 have hx:=h.eval x
 unfold zt6
 split
 .rename_i z id s n lo m hz h1
  rw[h1]at hx
  split
  .rename_i rows s' hσ
   rintro⟨ah,rfl,hn,au⟩
   obtain⟨aA,av⟩: ∃b,elT P t=some (s',b):=by
    cases hq:elT P t with
    |none=>simp[hq]at ah
    |some q=>obtain⟨q1,q2⟩:=q;simp[hq]at ah;subst ah;exact⟨q2,rfl⟩
   obtain⟨el,i,zz,hu,hi,ak,rfl,rfl,ab,hs,aB⟩:=ze2 av
   unfold zelT at hz
   rw[hu]at hz
   obtain⟨i',aC,al,ae,an,rfl⟩:=zE9 hz
   rw[hi]at al;cases al
   rw[ak]at ae;cases ae
   have aw:=hx
   obtain⟨ad,cap,hv,aD,a8,_⟩:=aw
   by_cases ax:m=0
   .subst ax
    have ao:σ.set id (.lst (rows.take lo++List.replicate 0 (zz.cells.toList.map zc6)++rows.drop (lo+0)) i.size)=σ:=yB _ _ _ (by simp[hσ])
    rw[ao]
    refine⟨.tuple #[],w,L,β,.inl ?_,h.mem,Le.refl _ _,Ext.refl _ _,[],rfl,tV⟩
    cases ad<;>simp[execOp,resolve,invoke,builtin,Builtin.clear_,run_underlying hu,hv]
   .have aa:All2 (RdC w L σ β) (List.replicate m (zz.cells.toList.map zc6)).flatten (Builtin.zeroCells zz.cells m).toList:=by
     have ai:uni i.size (List.replicate m (zz.cells.toList.map zc6)):=fun r hr=>by
      rw[(List.mem_replicate.1 hr).2];simp[ab]
     refine All2.of ?_ fun j p x hp hx=> ?_
     .rw[zV ai];simp[size_zeroCells,ab]
     .have aq:j<m*i.size:=by
       have:=(A5.1 hp).1
       rw[zV ai]at this
       simpa using this
      have ay:j/i.size<m:=by rw[Cq hs];exact aq
      have ar:j%i.size<i.size:=Cv _ hs
      have az:j=j/i.size*i.size+j%i.size:=by rw[Bo];exact(Dl j i.size).symm
      rw[az,yI _ _ ai ar,List.getElem?_replicate,if_pos ay]at hp
      simp only[Ax,B3]at hp
      have:=xu7 ab hs j aq
      rw[Aq]at hx
      unfold Builtin.zeroCells at hx
      rw[ab]at hx this
      rw[this]at hx
      simp only[Option.some.injEq]at hx
      rw[A4 (by simpa[ab]using ar)]at hp
      simp only[B9,Option.some.injEq]at hp
      rw[<-hp,<-hx]
      exact RdC.of_pure (zw0 _ (an _ (Ac _))).1
    have aj:(List.replicate m (zz.cells.toList.map zc6)).length=m:=sm
    obtain⟨a0,w',rfl,a1,af,hle,ag⟩:=xH0 (P:=P) h.mem (p:=lo) hσ hx hv hn (r2:=List.replicate m (zz.cells.toList.map zc6)) (fun r hr=>by
     rw[(List.mem_replicate.1 hr).2];simp[ab]) aa (fun u a6=>by
      obtain⟨k,hk⟩:=Ay.1 a6
      have a7:k<(List.replicate m (zz.cells.toList.map zc6)).flatten.length:=by rw[aa.length];exact(A5.1 hk).1
      obtain⟨q,hq,rq⟩:=aa.get k _ (A4 a7)
      rw[hk]at hq;cases hq
      exact rq.oneCell) rfl (by rw[aj];exact A6 _) au (by rw[aj];omega)
    rw[aj]at af ag
    obtain⟨m',rfl⟩: ∃m',m=m'+1:=⟨m - 1,om⟩
    refine⟨.tuple #[],w',L,β,.inl ?_,af,hle,ag,[],rfl,tV⟩
    simp[execOp,resolve,invoke,builtin,Builtin.clear_,run_underlying hu,hv,zeroValue,typeInfo,hi,ak,a1]
  .trivial
 .trivial
def wX (es:Option Nat) (len:Nat) (σ:St) (parts:List (Nat×V)):R:=
 match es with
 |some s=>if zn4 0 parts=true/\parts.length=len then .needst ((∀p∈parts,(yZ p.2).length=s)/\len*s<=16777216/\0<s) (.lsv σ.length s len 0 len) (σ++ [.lst (parts.map fun p=>yZ p.2) s])else .fail
 |none=> .fail
theorem yf5 {pos:String} (t:TypeId) (len:Nat) (ps:Array (Nat×Operand)) (h:Sim c nt e σ a w L β):
  ROk (wX ((elT P t).map (·.1)) len σ (ps.toList.map fun p=>(p.1,zD e p.2))) σ (Yield P c ⟨dst,.buildSlice t len ps,ty,pos,aft,g⟩ a w L σ β):=by
 unfold wX
 split
 .rename_i s ai
  split
  .rename_i aj
   obtain⟨ho,hlen⟩:=aj
   rintro⟨hp,ay,hs⟩
   obtain⟨el,aq⟩: ∃b,elT P t=some (s,b):=by
    cases hq:elT P t with
    |none=>simp[hq]at ai
    |some q=>obtain⟨q1,q2⟩:=q;simp[hq]at ai;subst ai;exact⟨q2,rfl⟩
   obtain⟨el,i,z,hu,hi,hz,rfl,_,az,_,_⟩:=ze2 aq
   have ab:=All2.of_parts h ps.toList
   have ak: ∀aa,Instr.fill (fun k=>some (k*i.size,i.size)) ((Array.range (len*i.size)).map (z.cells[· %z.cells.size]!)) (ps.map fun(k,x)=>(k,a.eval x)).toList=some aa->
     (Instr.buildSlice t len (ps.map fun(k,x)=>(k,a.eval x))).run P w= .ok (.slice (some ⟨w.heap.size,0,none⟩) len len) (w.alloc (.cells aa el)):=by
    intro aa hf
    by_cases h0:len*i.size=0
    .have ar:len=0:=by
      rcases Nat.mul_eq_zero.1 h0 with h|h
      .exact h
      .omega
     subst ar
     simp at hlen
     subst hlen
     simp[Instr.fill]at hf
     subst hf
     have au: ∀f:Nat->Value,(Array.range 0).map f= #[]:=fun f=>by apply Da;simp
     simp[Instr.buildSlice,run_underlying hu,sizeOf,typeInfo,hi,Instr.fill,newRow,au]
    .exact run_buildSlice w t el len _ aa i z hu hi hz om h0 hf
   have al:(ps.map fun(k,x)=>(k,a.eval x)).toList=ps.toList.map fun p=>(p.1,a.eval p.2):=sm
   obtain⟨aa,hf,av,ae⟩:=yc7 (s:=i.size) _ _ 0 ((Array.range (len*i.size)).map (z.cells[· %z.cells.size]!)) [] ho hp ab (by simp at hlen⊢;rw[hlen]) sm (by simp[All2])
   rw[<-al]at hf
   have hr:=ak aa hf
   have ad:((ps.toList.map fun p=>(p.1,zD e p.2)).map fun p=>yZ p.2).length=len:=by rw[Aw,hlen]
   have aw:uni i.size ((ps.toList.map fun p=>(p.1,zD e p.2)).map fun p=>yZ p.2):=fun r hr=>by
    obtain⟨p,ax,rfl⟩:=Ag.1 hr
    exact hp p ax
   simp only[Ck]at ae
   have af:aa.size=len*i.size:=by rw[av];simp
   obtain⟨ag,an,ah⟩:=h.mem.lstPush (s:=i.size) (cap:=len) (arr:=aa) (T:=el) hs aw (by rw[ad,<-af,Az sm];exact ae) (by rw[ad];exact A6 _) (by rw[af];exact A6 _)
   have ao:=zP6 (w':=w.alloc (.cells aa el)) (L':=L) (s:=i.size) (rows:=(ps.toList.map fun p=>(p.1,zD e p.2)).map fun p=>yZ p.2) (cap:=len) (a0:=some ⟨w.heap.size,0,none⟩) h.mem.len (by rw[ad];exact A6 _) (fun _=>⟨_,rfl⟩)
   rw[ad]at ag ah ao
   exact⟨_,_,_,_,.inl (by simp[execOp,hr]),ag,an,ah,ao⟩
  .trivial
 .trivial
def zx5 (ks kd:Option Kd) (σ:St) (x:V):R:=
 match kd,x with
 |some .bytes,.str s=>if ks=some .str then .st (.lsv σ.length 1 s.length 0 s.length) (σ++ [.lst (zN s) 1])else .fail
 |_,_=> .fail
theorem xv5 {pos:String} (t t':TypeId) (x:Operand) (h:Sim c nt e σ a w L β):
  ROk (zx5 (kdT P t) (kdT P t') σ (zD e x)) σ (Yield P c ⟨dst,.convert t t' x,ty,pos,aft,g⟩ a w L σ β):=by
 have hx:=h.eval x
 unfold zx5
 split
 .rename_i s hk h1
  rw[h1]at hx
  split
  .rename_i hs
   obtain⟨el,hu,he⟩:=zT4 hk
   have hr:=run_bytes_of_string (P:=P) w t t' el ⟨s.toArray⟩ (zJ8 hs) hu he
   have hd:=h.mem.drew
   have af:=grownCap_ge w (ByteArray.mk s.toArray).size 0 el
   generalize hcap:grownCap w (ByteArray.mk s.toArray).size 0 el=cap at hr af
   have aa:s.length<=cap:=by rw[<-zl7 s];exact af
   generalize ab:bytesRow ⟨s.toArray⟩ cap=arr at hr
   have aj:arr.size=cap:=by rw[<-ab];simp[bytesRow];rw[zl7];omega
   have hl:(zN s).length=s.length:=by simp[zN]
   have ag:All2 (RdC w.drew L σ β) (zN s).flatten (arr.toList.take ((zN s).length*1)):=by
    have hb:arr.toList.take ((zN s).length*1)=byteCells ⟨s.toArray⟩:=by
     rw[<-ab]
     simp[bytesRow,byteCells,zN]
    rw[hb]
    exact(zp8 s).imp fun _ _=>RdC.of_pure
   obtain⟨ad,ah,ae⟩:=hd.1.lstPushF (s:=1) (cap:=cap) (arr:=arr) (T:=el) (fz:=(arr.size,arr.size+1)) ⟨fun o ho q=>by simp only at q;omega,.inl rfl⟩ om (zO0 s) ag (by rw[hl];exact aa) om
   have ai:=zP6 (w':=w.drew.alloc (.cells arr el (arr.size,arr.size+1))) (L':=L) (s:=1) (rows:=zN s) (cap:=cap) (a0:=some ⟨w.drew.heap.size,0,none⟩) h.mem.len (by rw[hl];exact aa) (fun _=>⟨_,rfl⟩)
   rw[hl]at ad ae ai
   refine⟨_,_,_,_,.inl ?_,ad,hd.2.trans ah,ae,ai⟩
   simp only[execOp,wM hx,Sem.run_bind,hr,Result.andThen_ok,Sem.run_pure]
   rw[zl7]
   rfl
  .trivial
 .trivial
end
theorem Ext.setOther {σ:St} {β:List Value} {i:Nat} {o0:Ob} (hi:σ[i]? =some o0) (h1: ∀n s,o0≠ .app n s) (h2: ∀r s,o0≠ .lst r s) (h3:o0≠ .dead) (o:Ob):Ext σ β (σ.set i o) β:=by
 refine⟨fun _ _ e=>e,fun id n s e=>⟨n, ?_,A6 _,fun _=>rfl⟩,fun id rows s e=> .inr ⟨rows, ?_,A6 _,fun _=>rfl⟩,fun id e=> ?_⟩
 all_goals
  have:i≠id:=fun q=>by
   subst q;rw[hi]at e
   first|exact h1 _ _ (Option.some.inj e)|exact h2 _ _ (Option.some.inj e)|exact h3 (Option.some.inj e)
  rw[Ah this];exact e
section
variable {c:Ctx} {w:World} {L:Nat->Nat} {σ:St} {β:List Value}
theorem Mem.newOb (h:Mem c w L σ β) (ob:Go.Obj) (o:Ob)
  (ho:Le w L (w.alloc ob) L->Ext σ β (σ++ [o]) (β++ [.pointer (some ⟨w.heap.size,0,none⟩)])->ObOk (w.alloc ob) L (σ++ [o]) (β++ [.pointer (some ⟨w.heap.size,0,none⟩)]) o (.pointer (some ⟨w.heap.size,0,none⟩)))
  (hex: ∀b,excl o (.pointer (some ⟨w.heap.size,0,none⟩))=some b->b=w.heap.size):
  Mem c (w.alloc ob) L (σ++ [o]) (β++ [.pointer (some ⟨w.heap.size,0,none⟩)])/\Le w L (w.alloc ob) L:=by
 have h1:=h.alloc ob 0
 rw[zD9 h]at h1
 refine⟨h1.1.push _ _ (ho h1.2 (Ext.push σ β h.len _ _)) ?_ ?_,h1.2⟩
 .intro i o' x' b hi hx hb e
  have h2:=(h.objs i o' x' hi hx).excl_lt hb
  have h3:=hex b e
  omega
 .intro b hb
  rw[hex b hb]
  exact .inl h.size
theorem Mem.setOb (h:Mem c w L σ β) {i b:Nat} {o0 o:Ob} (hi:σ[i]? =some o0) (hβ:β[i]? =some (.pointer (some ⟨b,0,none⟩))) (ab:excl o0 (.pointer (some ⟨b,0,none⟩))=some b) (h0:L b=0)
  (ob:Go.Obj) (ad:Ext σ β (σ.set i o) β) (hex: ∀k,excl o (.pointer (some ⟨b,0,none⟩))=some k->k=b)
  (hok:Le w L (yG w b ob) L->ObOk (yG w b ob) L (σ.set i o) β o (.pointer (some ⟨b,0,none⟩))):
  Mem c (yG w b ob) L (σ.set i o) β/\Le w L (yG w b ob) L:=by
 have hle:Le w L (yG w b ob) L:=by
  refine⟨fun _=>A6 _,fun k o ho=>zb6 (zd3 w b k _ fun q=> ?_) o⟩
  subst q;rw[h0]at ho;omega
 refine⟨?_,hle⟩
 have aa:=yB β i _ hβ
 have key:=h.upd (w':=yG w b ob) (L':=L) i o (.pointer (some ⟨b,0,none⟩)) hle (by rw[aa];exact ad) (fun k=>k=b)
  (fun j o' x' k hj ae af hk e=>by subst e;exact h.apart j i o' _ x' _ k hj ae af hi hβ hk ab)
  (fun k e=>by subst e;exact h.mine i _ _ k hi hβ ab)
  (fun k hk=>⟨zd3 w b k _ hk,rfl⟩) (by simp[yG]) rfl rfl rfl h.lim (by rw[aa];exact hok hle) (fun k hk=>hex k hk)
 rw[aa]at key;exact key
end
theorem All2.mem_r {α β:Type} {R:α->β->Prop}: ∀{l:List α} {m:List β} {b:β},All2 R l m->b∈m-> ∃a∈l,R a b
 |a::l,b'::m,b,h,hb=>by
  rcases Ak.1 hb with rfl|hb
  .exact⟨a,sm,h.1⟩
  .obtain⟨a',ha,r⟩:=All2.mem_r h.2 hb
   exact⟨a',by simp[ha],r⟩
 | [],[],_,_,hb=>by simp at hb
 | [],_::_,_,h,_=>h.elim
 |_::_,[],_,h,_=>h.elim
section
variable {P:Program} {c:Ctx} {nt:Nat} {e:Env} {σ:St} {a:Act} {w:World} {L:Nat->Nat} {β:List Value} {o:Oper}
variable {x:Value}{dst:Option Tmp}{ty:TypeId}{aft:Array Edge}{g:Option (Nat×Bool)}{p:V}{kt:TypeId}{t:TypeId}{y:Value}{k:Pk}{kvs:List V}
theorem yq1 {v:V} (r:RdS w L σ β v x) (h:wE v=true):RdA w L σ β v x:=by
 cases v<;>first|exact r|simp[wE]at h
def keyD:TypeDesc->Option Pk
 | .bool=>some .b
 | .int k=>some (.i k)
 | .string=>some .s
 |_=>none
inductive Kk where
 |one (k:Pk)
 |st (ks:List Pk)
def yn8 (P:Program):Nat->List Field->Option (List Pk)
 |_,[]=>some []
 |i,f::fs=>if f.name≠ "_" /\f.offset=i/\aggT P f.type=some false then((P.underlying f.type).bind keyD).bind fun k=>(yn8 P (i+1) fs).map (k:: ·)else none
def kkT (P:Program) (kt:TypeId):Option Kk:=
 match P.underlying kt with
 |some (.struct fs)=>(yn8 P 0 fs.toList).bind fun ks=>if zt5 P 10 kt=some ks then some (.st ks)else none
 |some d=>(keyD d).map .one
 |none=>none
def zvT (P:Program) (t:TypeId):Option V:=
 match (P.info? t).bind (·.zero)with
 |some (.agg cs)=>if cs.all (·.oneCell')=true then some (.agg (cs.toList.map zc6))else none
 |some v=>if v.oneCell'=true then some (zc6 v)else none
 |none=>none
def mapT (P:Program) (t:TypeId):Option (Kk×V):=
 match P.underlying t with
 |some (.map kt et)=>(kkT P kt).bind fun k=>(zvT P et).map fun z=>(k,z)
 |_=>none
theorem xC4 {z:V} (h:zvT P t=some z): ∃i zv,P.info? t=some i/\i.zero=some zv/\wE z=true/\ ∀(w:World) L σ β,RdA w L σ β z zv:=by
 unfold zvT at h
 cases hi:P.info? t with
 |none=>simp[hi]at h
 |some i=>
  cases hz:i.zero with
  |none=>simp[hi,hz]at h
  |some zv=>
   simp only[hi,hz,Ax]at h
   refine⟨i,zv,rfl,hz, ?_⟩
   split at h
   .rename_i cs aa
    cases aa
    split at h
    .rename_i ha
     simp only[Option.some.injEq]at h
     subst h
     refine⟨rfl,fun w L σ β=>⟨cs.toList,sm,(zV2 fun v hv=> ?_).imp fun _ _=>RdC.of_pure⟩⟩
     exact D5.1 ha v (Array.mem_toList_iff.1 hv)
    .cases h
   .rename_i v ab hv
    cases hv
    split at h
    .rename_i h1
     simp only[Option.some.injEq]at h
     subst h
     have hc:zG9 (zc6 zv)=true:=(zw0 (w:=default) (L:=fun _=>0) zv h1).2
     refine⟨?_,fun w L σ β=>RdA.of_cell (RdC.of_pure (zw0 zv h1).1)⟩
     revert hc
     generalize zc6 zv=q0
     cases q0<;>simp[zG9,wE]
    .cases h
   .rename_i hv;cases hv
theorem zB0 {k:Kk} {z:V} (h:mapT P t=some (k,z)): ∃kt et i zv,P.underlying t=some (.map kt et)/\kkT P kt=some k/\P.info? et=some i/\i.zero=some zv/\wE z=true/\ ∀(w:World) L σ β,RdA w L σ β z zv:=by
 unfold mapT at h
 split at h
 .rename_i kt et hu
  cases hk:kkT P kt with
  |none=>simp[hk]at h
  |some k'=>
   cases hz:zvT P et with
   |none=>simp[hk,hz]at h
   |some z'=>
    simp only[hk,hz,Ax,B9,Option.some.injEq,Prod.mk.injEq]at h
    obtain⟨rfl,rfl⟩:=h
    obtain⟨i,zv,h1,h2,h3,h4⟩:=xC4 hz
    exact⟨kt,et,i,zv,hu,hk,h1,h2,h3,h4⟩
 .cases h
def zd6:Pk->V->Bool
 | .b,.bool _=>true
 | .i k,.int k' _=>decide (k'=k)
 | .s,.str _=>true
 |_,_=>false
def za9:List Pk->List V->Bool
 | [],[]=>true
 |k::ks,v::vs=>zd6 k v&&za9 ks vs
 |_,_=>false
def zn5:Kk->V->Bool
 | .one k,v=>zd6 k v
 | .st ks,.agg vs=>za9 ks vs
 |_,_=>false
theorem zr1 {d:TypeDesc} {v:V} (hk:keyD d=some k) (h:zd6 k v=true) (r:RdS w L σ β v x):MapKept.IsKey d x:=by
 cases k<;>cases v<;>simp[zd6]at h
 .rw[zd2 r];cases d<;>simp[keyD]at hk<;>trivial
 .rw[yE r];cases d<;>simp[keyD]at hk;subst hk;exact h
 .rw[wM r];cases d<;>simp[keyD]at hk<;>trivial
theorem yn9 (em:Bool) (xs:List Value) (w:World): ∀(fs:List Field) (i:Nat) (ks:List Pk) (vs:List V),yn8 P i fs=some ks->za9 ks vs=true->All2 (RdC w L σ β) vs (xs.drop i)->
  ∀f∈fs,f.name≠ "_" /\ ∃x,(part f.type xs.toArray f.offset).run P w= .ok x w/\(Instr.checkKey em 9999 f.type x).run P w= .ok () w
 | [],_,_,_,_,_,_,_,hf=>by cases hf
 |f::fs,i,ks,vs,h,hko,ha,f',hf'=>by
  unfold yn8 at h
  split at h
  .rename_i hc
   obtain⟨h1,h2,h3⟩:=hc
   cases hu:P.underlying f.type with
   |none=>simp[hu]at h
   |some d=>
    cases hk:keyD d with
    |none=>simp[hu,hk]at h
    |some k=>
     simp only[hu,hk,Ax,Bb]at h
     obtain⟨ks',h4,rfl⟩:=h
     cases vs with
     |nil=>simp[za9]at hko
     |cons v vs=>
      simp only[za9,A8]at hko
      have hlen:=ha.length
      have hlt:i<xs.length:=by simp at hlen;omega
      rw[Aa hlt]at ha
      rcases Ak.1 hf' with rfl|hf'
      .have hp:(part f'.type xs.toArray f'.offset).run P w= .ok xs[i] w:=by
        have hlt':i<xs.toArray.size:=by simpa using hlt
        rw[h2]
        simp only[part,Sem.run_bind,zk5 h3,Result.andThen_ok,Br,if_false,Av hlt',Sem.run_pure]
        simp
       exact⟨h1,_,hp,MapKept.run_checkKey (P:=P) (w:=w) hu (zr1 hk hko.1 (RdS.of_cell ha.1)) em 9998⟩
      .exact yn9 em xs w fs (i+1) ks' vs h4 hko.2 ha.2 f' hf'
  .cases h
theorem zA7 {kk:Kk} (hk:kkT P kt=some kk) (aa:zn5 kk p=true) (hx:RdS w L σ β p x) (em:Bool):(Instr.checkKey em 10000 kt x).run P w= .ok () w:=by
 unfold kkT at hk
 split at hk
 .rename_i fs hu
  cases hf:yn8 P 0 fs.toList with
  |none=>simp[hf]at hk
  |some ks=>
   simp only[hf,Ax]at hk
   split at hk
   .simp only[Option.some.injEq]at hk
    subst hk
    cases p<;>simp[zn5]at aa
    obtain⟨xs,rfl,ha⟩:=hx
    have each:=yn9 (P:=P) em xs w fs.toList 0 ks _ hf aa ha
    rw[show(10000:Nat)=9999+1 from rfl,Instr.checkKey]
    simp only[Sem.run_bind,run_underlying hu,Result.andThen_ok]
    rw[<-Array.forIn_toList]
    clear hf hu
    generalize fs.toList=M at each
    induction M with
    |nil=>simp
    |cons f M ih=>
     obtain⟨hn,x,p1,p2⟩:=each f sm
     simp only[List.forIn_cons,Sem.run_bind,hn,ne_eq,not_false_eq_true,if_true,Result.andThen_ok,p1,p2,Sem.run_pure]
     exact ih fun y hy=>each y (by simp[hy])
   .cases hk
 .rename_i d ab hu
  cases hd:keyD d with
  |none=>simp[hd]at hk
  |some k=>
   simp only[hd,B9,Option.some.injEq]at hk
   subst hk
   exact MapKept.run_checkKey hu (zr1 hd aa hx) em 9999
 .cases hk
def eqKk:Kk->V->V->Option Bool
 | .one k,x,y=>eqPk k x y
 | .st ks,.agg x,.agg y=>eqVs ks x y
 |_,_,_=>none
def zh7 (k:Kk) (x:V):List V->Nat->Option (Option (Nat×V))
 |kk::vv::rest,i=>(match eqKk k x kk with
  |some true=>some (some (i,vv))
  |some false=>zh7 k x rest (i+1)
  |none=>none)
 | [],_=>some none
 | [_],_=>none
theorem yD2 {d:TypeDesc} {v:V} {r:Bool} (hk:keyD d=some k) (hx:RdS w L σ β p x) (hy:RdS w L σ β v y) (h:eqPk k p v=some r):Instr.sameNow d x y=some r:=by
 cases k
 .cases p<;>cases v<;>simp[eqPk]at h
  subst h
  rw[zd2 hx,zd2 hy]
  cases d<;>simp[keyD]at hk
  rfl
 .cases p<;>cases v<;>simp[eqPk]at h
  obtain⟨⟨rfl,rfl⟩,rfl⟩:=h
  rw[yE hx,yE hy]
  cases d<;>simp[keyD]at hk
  simp[Instr.sameNow]
 .cases p<;>cases v<;>simp[eqPk]at h
  subst h
  rename_i s1 s2
  rw[wM hx,wM hy]
  cases d<;>simp[keyD]at hk
  simp only[Instr.sameNow,Option.some.injEq]
  have e1:((⟨s1.toArray⟩:ByteArray)==⟨s2.toArray⟩)=(s1.toArray==s2.toArray):=rfl
  rw[e1]
  simp
theorem yd0 {k:Kk} {p:V} (M:List MapEntry->Nat->Option (Nat×Value)->Prop) (h0: ∀i,M [] i none)
  (hT: ∀v (e:MapEntry) es i,RdA w L σ β v e.key->eqKk k p v=some true->M (e::es) i (some (i,e.val)))
  (hF: ∀v (e:MapEntry) es i r,RdA w L σ β v e.key->eqKk k p v=some false->M es (i+1) r->M (e::es) i r):
  ∀(kvs:List V) (es:List MapEntry) (i:Nat) (q:Option (Nat×V)),All2 (RdA w L σ β) kvs (es.flatMap fun e=> [e.key,e.val])->zh7 k p kvs i=some q->
  (q=none/\M es i none)∨ ∃(j:Nat) (v:V) (e:MapEntry),q=some (i+j,v)/\M es i (some (i+j,e.val))/\es[j]? =some e/\kvs[2*j+1]? =some v/\RdA w L σ β v e.val/\(∃kk,kvs[2*j]? =some kk/\eqKk k p kk=some true)
 | [],[],i,q,_,h=>by simp[zh7]at h;exact .inl ⟨h.symm,h0 i⟩
 | [],e::es,_,_,ha,_=>by simp[All2]at ha
 | [_],[],_,_,ha,_=>by simp[All2]at ha
 | [_],e::es,_,_,_,h=>by simp[zh7]at h
 |_::_::_,[],_,_,ha,_=>by simp[All2]at ha
 |kk::vv::kvs,e::es,i,q,ha,h=>by
  simp only[Bq,Bu,Ck,All2]at ha
  obtain⟨h1,h2,h3⟩:=ha
  rw[zh7]at h
  split at h
  .rename_i he
   simp only[Option.some.injEq]at h
   exact .inr ⟨0,vv,e,h.symm,hT _ _ _ _ h1 he,rfl,rfl,h2,kk,rfl,he⟩
  .rename_i he
   rcases yd0 M h0 hT hF kvs es (i+1) q h3 h with ⟨e1,e2⟩|⟨j,v,e',e1,e2,e3,e4,e5,aa,e6,e7⟩
   .exact .inl ⟨e1,hF _ _ _ _ _ h1 he e2⟩
   .rw[show i+1+j=i+(j+1) by omega]at e1 e2
    refine .inr ⟨j+1,v,e',e1,hF _ _ _ _ _ h1 he e2,by simpa using e3, ?_,e5,aa, ?_,e7⟩
    .rw[show 2*(j+1)+1=(2*j+1)+2 by omega];simpa using e4
    .rw[show 2*(j+1)=(2*j)+2 by omega];simpa using e6
  .cases h
theorem zH8 {fs:Array Field} {es:List MapEntry} {r:Option (Nat×Value)} (hu:P.underlying kt=some (.struct fs)) (h:(Instr.findAsking kt x es 0).run P w= .ok r w):(Instr.findKey kt x es).run P w= .ok r w:=by
 cases es with
 |nil=>simp[Instr.findAsking]at h;subst h;simp[Instr.findKey,run_underlying hu,Instr.findNow]
 |cons e es=>
  have:Instr.findNow (.struct fs) x (e::es) 0=none:=by simp[Instr.findNow,Instr.sameNow]
  simp[Instr.findKey,run_underlying hu,this,h]
theorem zr0 {kk:Kk} (hk:kkT P kt=some kk) (ag:zn5 kk p=true) (hx:RdS w L σ β p x) {es:List MapEntry} {q:Option (Nat×V)} (ha:All2 (RdA w L σ β) kvs (es.flatMap fun e=> [e.key,e.val])) (hf:zh7 kk p kvs 0=some q):
  (q=none/\(Instr.findKey kt x es).run P w= .ok none w)∨ ∃(j:Nat) (v:V) (e:MapEntry),q=some (j,v)/\(Instr.findKey kt x es).run P w= .ok (some (j,e.val)) w/\es[j]? =some e/\kvs[2*j+1]? =some v/\RdA w L σ β v e.val/\(∃k',kvs[2*j]? =some k'/\eqKk kk p k'=some true):=by
 unfold kkT at hk
 split at hk
 .rename_i fs hu
  cases ad:yn8 P 0 fs.toList with
  |none=>simp[ad]at hk
  |some ks=>
   simp only[ad,Ax]at hk
   split at hk
   .rename_i ah
    simp only[Option.some.injEq]at hk
    subst hk
    cases p<;>simp[zn5]at ag
    rename_i vs
    obtain⟨xs,rfl,ae⟩:=hx
    have ab: ∀(us:List V) (ys:List Value),All2 (RdC w L σ β) us ys-> ∀z∈ys,z.oneCell'=true:=fun us ys h z hz=>by
     obtain⟨i,hi,rfl⟩:=List.mem_iff_getElem.1 hz
     obtain⟨a,_,r⟩:=All2.mem_r h (Ac hi)
     exact r.oneCell
    have aa: ∀ys:Array Value,zv0 P kt (.agg ys):=fun ys=>by
     unfold zv0
     rw[if_pos (by unfold aggT;rw[hu];rfl)]
     exact⟨_,rfl⟩
    have heq: ∀(v:V) (y:Value) (r:Bool),RdA w L σ β v y->eqKk (.st ks) (.agg vs) v=some r->(Op.equal kt (.agg xs.toArray) y).run P w= .ok r w:=by
     intro v y r hr he
     cases v<;>simp[eqKk]at he
     rename_i us
     obtain⟨ys,rfl,af⟩:=hr
     have ai:=zS7 ks vs us xs ys r ae af he
     exact zH6 10 kt ks ah 10000 om _ _ r (aa _) (aa _) (by simpa[Value.cells]using ab _ _ ae) (by simpa[Value.cells]using ab _ _ af) (by simpa[Value.cells]using ai) w
    rcases yd0 (w:=w) (L:=L) (σ:=σ) (β:=β) (k:= .st ks) (p:= .agg vs) (fun es i r=>(Instr.findAsking kt (.agg xs.toArray) es i).run P w= .ok r w) (fun i=>by simp[Instr.findAsking])
     (fun v e es i h1 h2=>by simp[Instr.findAsking,heq v _ _ h1 h2]) (fun v e es i r h1 h2 h3=>by simp[Instr.findAsking,heq v _ _ h1 h2,h3]) kvs es 0 q ha hf with ⟨e1,e2⟩|⟨j,v,e',e1,e2,e3⟩
    .exact .inl ⟨e1,zH8 hu e2⟩
    .rw[Af]at e1 e2
     exact .inr ⟨j,v,e',e1,zH8 hu e2,e3⟩
   .cases hk
 .rename_i d aj hu
  cases hd:keyD d with
  |none=>simp[hd]at hk
  |some k=>
   simp only[hd,B9,Option.some.injEq]at hk
   subst hk
   rcases yd0 (w:=w) (L:=L) (σ:=σ) (β:=β) (k:= .one k) (p:=p) (fun es i r=>Instr.findNow d x es i=some r) (fun i=>rfl)
    (fun v e es i h1 h2=>by simp[Instr.findNow,yD2 hd hx (RdS.of_a h1) h2]) (fun v e es i r h1 h2 h3=>by simp[Instr.findNow,yD2 hd hx (RdS.of_a h1) h2,h3]) kvs es 0 q ha hf with ⟨e1,e2⟩|⟨j,v,e',e1,e2,e3⟩
   .exact .inl ⟨e1,MapKept.run_findKey hu e2⟩
   .rw[Af]at e1 e2
    exact .inr ⟨j,v,e',e1,MapKept.run_findKey hu e2,e3⟩
 .cases hk
theorem yn2 {v:V} (hx:RdS w L σ β p x) (hy:RdS w L σ β v y) (h:eqPk k p v=some true):x=y:=by
 cases k<;>cases p<;>cases v<;>simp[eqPk]at h
 .rw[zd2 hx,zd2 hy,h]
 .obtain⟨⟨rfl,rfl⟩,rfl⟩:=h
  rw[yE hx,yE hy]
 .rw[wM hx,wM hy,h]
theorem yn3: ∀(ks:List Pk) (us vs:List V) (xs ys:List Value),All2 (RdC w L σ β) us xs->All2 (RdC w L σ β) vs ys->eqVs ks us vs=some true->xs=ys
 | [],[],[],[],[],_,_,_=>rfl
 |k::ks,u'::us,v::vs,x::xs,y::ys,h1,h2,h=>by
  unfold eqVs at h
  cases hk:eqPk k u' v with
  |none=>simp[hk]at h
  |some r0=>
   simp only[hk,Ax,Bb]at h
   obtain⟨r',h3,h4⟩:=h
   simp only[A8]at h4
   obtain⟨rfl,rfl⟩:=h4
   rw[yn2 (RdS.of_cell h1.1) (RdS.of_cell h2.1) hk,yn3 ks us vs xs ys h1.2 h2.2 h3]
 | [],[],[],[],_::_,_,h2,_=>h2.elim
 | [],[],[],_::_,_,h1,_,_=>h1.elim
 | [],[],_::_,_,_,_,_,h=>by cases h
 | [],_::_,_,_,_,_,_,h=>by cases h
 |_::_,[],_,_,_,_,_,h=>by cases h
 |_::_,_::_,[],_,_,_,_,h=>by cases h
 |_::_,_::_,_::_,[],_,h1,_,_=>h1.elim
 |_::_,_::_,_::_,_::_,[],_,h2,_=>h2.elim
theorem yn1 {k:Kk} {v:V} (hx:RdS w L σ β p x) (hy:RdS w L σ β v y) (h:eqKk k p v=some true):x=y:=by
 cases k with
 |one k=>exact yn2 hx hy h
 |st ks=>
  cases p<;>cases v<;>simp[eqKk]at h
  obtain⟨xs,rfl,h1⟩:=hx
  obtain⟨ys,rfl,h2⟩:=hy
  rw[yn3 ks _ _ _ _ h1 h2 h]
theorem xg1 {ks:List Pk}: ∀{vs:List V} {xs:List Value},za9 ks vs=true->All2 (RdC w L σ β) vs xs-> ∀z∈xs,∃d,MapKept.IsKey d z:=by
 induction ks with
 |nil=>
  intro vs xs h ha
  cases vs with
  |nil=>cases xs with
   |nil=>intro z hz;cases hz
   |cons _ _=>exact ha.elim
  |cons _ _=>simp[za9]at h
 |cons k ks ih=>
  intro vs xs h ha z hz
  cases vs with
  |nil=>simp[za9]at h
  |cons v vs=>
   cases xs with
   |nil=>exact ha.elim
   |cons x xs=>
    simp only[za9,A8]at h
    rcases Ak.1 hz with rfl|hz
    .have hr:=RdS.of_cell (σ:=σ) (β:=β) ha.1
     cases k
     .exact⟨.bool,zr1 rfl h.1 hr⟩
     .exact⟨.int _,zr1 rfl h.1 hr⟩
     .exact⟨.string,zr1 rfl h.1 hr⟩
    .exact ih h.2 ha.2 z hz
theorem yp0 {kk:Kk} (aa:zn5 kk p=true) (hx:RdS w L σ β p x):(Instr.keyThatStays x x).run P w= .ok x w:=by
 cases kk with
 |one k=>
  cases k
  .exact MapKept.run_keyThatStays (zr1 (d:= .bool) rfl aa hx)
  .exact MapKept.run_keyThatStays (zr1 (d:= .int _) rfl aa hx)
  .exact MapKept.run_keyThatStays (zr1 (d:= .string) rfl aa hx)
 |st ks=>
  cases p<;>simp[zn5]at aa
  obtain⟨xs,rfl,ha⟩:=hx
  have hs:Instr.sameBits 10000 (.agg xs.toArray) (.agg xs.toArray)=true:=by
   show Instr.sameBits (9999+1) (.agg xs.toArray) (.agg xs.toArray)=true
   simp only[Instr.sameBits,beq_self_eq_true,Be,Aj]
   rintro⟨a,b⟩ hp
   obtain⟨i,hi,e⟩:=List.mem_iff_getElem.1 hp
   simp only[List.getElem_zip,Prod.mk.injEq]at e
   obtain⟨rfl,rfl⟩:=e
   simp only[List.length_zip]at hi
   obtain⟨d,hd⟩:=xg1 aa ha xs[i] (Ac (by simpa using hi))
   simpa using MapKept.sameBits_self hd 9999
  simp[Instr.keyThatStays,hs]
def zm5 (σ:St) (m:Bool) (r:Option V):R:=
 match m,r with
 |_,none=> .st (.mp σ.length) (σ++ [.mp [] [] 0])
 |true,some (.int _ _)=> .st (.mp σ.length) (σ++ [.mp [] [] 0])
 |_,_=> .fail
def zh8 (P:Program) (t:TypeId):Bool:=match P.underlying t with|some (.map _ _)=>true|_=>false
theorem xH2 (h:Mem c w L σ β):Mem c (w.alloc (.map #[] 0)) L (σ++ [.mp [] [] 0]) (β++ [.pointer (some ⟨w.heap.size,0,none⟩)])/\Le w L (w.alloc (.map #[] 0)) L:=
 h.newOb _ _ (fun hle _=>⟨w.heap.size, #[],rfl,yD _ _,by have:=h.lim _ (A6 _);exact this,by simp[zv5,All2],rfl⟩) fun b hb=>by simp[excl]at hb;exact hb.symm
theorem yQ8 {pos:String} (t:TypeId) (r:Option Operand) (h:Sim c nt e σ a w L β):
  ROk (zm5 σ (zh8 P t) (r.map (zD e))) σ (Yield P c ⟨dst,.makeMap t r,ty,pos,aft,g⟩ a w L σ β):=by
 have aa:=xH2 h.mem
 have ab:RdS (w.alloc (.map #[] 0)) L (σ++ [.mp [] [] 0]) (β++ [.pointer (some ⟨w.heap.size,0,none⟩)]) (.mp σ.length) (.map (some w.heap.size)):=⟨w.heap.size,by rw[<-h.mem.len];simp,rfl⟩
 cases r with
 |none=>exact⟨_,_,L,_,.inl (by simp[execOp,Instr.makeMap]),aa.1,aa.2,Ext.push σ β h.mem.len _ _,ab⟩
 |some p=>
  have hp:=h.eval p
  simp only[B9]
  unfold zm5
  split
  .rename_i hq;cases hq
  .rename_i k n hm hq
   simp only[Option.some.injEq]at hq
   rw[hq]at hp
   have hp:=yE hp
   unfold zh8 at hm
   split at hm
   .rename_i kt et hu
    exact⟨_,_,L,_,.inl (by simp[execOp,Instr.makeMap,run_underlying hu,hp,asInt,asIntOf]),aa.1,aa.2,Ext.push σ β h.mem.len _ _,ab⟩
   .cases hm
  .trivial
def xL (m:Option (Kk×V)) (σ:St) (x k:V) (ok:Bool):R:=
 match m with
 |some (kd,z)=>if zn5 kd k=true then(match x with
  | .mp id=>(match σ[id]? with
   |some (.mp kvs _ _)=>(match zh7 kd k kvs 0 with
    |some (some (_,v))=> .ok (if ok then .tup [v,.bool true]else v)
    |some none=> .ok (if ok then .tup [z,.bool false]else z)
    |none=> .fail)
   |_=> .fail)
  | .raw (.map none)=> .ok (if ok then .tup [z,.bool false]else z)
  |_=> .fail)else .fail
 |none=> .fail
theorem zN0 {id:Nat} (r:RdS w L σ β (.mp id) x): ∃b,β[id]? =some (.pointer (some ⟨b,0,none⟩))/\x= .map (some b):=r
theorem zE0 (r:RdS w L σ β (.raw (.map none)) x):x= .map none:=by
 have r':RdP w L (.raw (.map none)) x:=r
 cases r';rfl
theorem yg2 {v:V} (b:Bool) (r:RdA w L σ β v x) (ok:Bool):RdS w L σ β (if ok then .tup [v,.bool b]else v) (if ok then .tuple #[x,.bool b]else x):=by
 cases ok
 .exact RdS.of_a r
 .exact⟨[x,.bool b],rfl,r,RdA.of_cell (RdC.of_pure (.bool b)),tV⟩
theorem xi6 {pos:String} (t:TypeId) (x k:Operand) (ok:Bool) (h:Sim c nt e σ a w L β):
  ROk (xL (mapT P t) σ (zD e x) (zD e k) ok) σ (Yield P c ⟨dst,.lookup t x k ok,ty,pos,aft,g⟩ a w L σ β):=by
 have hx:=h.eval x
 have hk:=h.eval k
 unfold xL
 split
 .rename_i kd z hm
  obtain⟨kt,et,i,zv,hu,ad,hi,hz,ai,ag⟩:=zB0 hm
  split
  .rename_i ae
   have af: ∀em,(Instr.checkKey em 10000 kt (a.eval k)).run P w= .ok () w:=fun em=>zA7 ad ae hk em
   have ah:(zeroValue et).run P w= .ok zv w:=by simp[zeroValue,typeInfo,hi,hz]
   split
   .rename_i id hid
    rw[hid]at hx
    obtain⟨b,hβ,hv⟩:=zN0 hx
    split
    .rename_i kvs bs clk hσ
     obtain⟨b',es,e1,hh,hl,ab,aj⟩:=h.mem.objs _ _ _ hσ hβ
     cases e1
     have ab:All2 (RdA w L σ β) kvs (es.toList.flatMap fun e=> [e.key,e.val]):=ab
     split
     .rename_i i0 v hf
      rcases zr0 ad ae hk ab hf with ⟨e1,_⟩|⟨j,v',e',e1,e2,_,_,e5,_⟩
      .cases e1
      .cases e1
       refine Yield.pure h (x:=if ok then .tuple #[e'.val,.bool true]else e'.val) ?_ (yg2 true e5 ok)
       have aa:=e2
       simp[execOp,Instr.lookup,run_underlying hu,hv,MapKept.run_getObj_map hh,af,aa]
     .rename_i hf
      rcases zr0 ad ae hk ab hf with ⟨_,e2⟩|⟨j,v',e',e1,_⟩
      .refine Yield.pure h (x:=if ok then .tuple #[zv,.bool false]else zv) ?_ (yg2 false (ag _ _ _ _) ok)
       have aa:=e2
       simp[execOp,Instr.lookup,run_underlying hu,hv,MapKept.run_getObj_map hh,af,aa,ah]
      .cases e1
     .trivial
    .trivial
   .rename_i hid
    rw[hid]at hx
    have hv:=zE0 hx
    refine Yield.pure h (x:=if ok then .tuple #[zv,.bool false]else zv) ?_ (yg2 false (ag _ _ _ _) ok)
    have aa:(Instr.findKey kt (a.eval k) []).run P w= .ok none w:=by
     rcases zr0 (es:= []) ad ae hk (show All2 (RdA w L σ β) [] _ from trivial) rfl with ⟨_,e2⟩|⟨j,v',e',e1,_⟩
     .exact e2
     .cases e1
    simp[execOp,Instr.lookup,run_underlying hu,hv,af,aa,ah]
   .trivial
  .trivial
 .trivial
def zw6 (kvs:List V) (i:Nat) (k v:V):List V:=(kvs.set (2*i) k).set (2*i+1) v
theorem zu9 (l:List MapEntry): ∀(i:Nat),(l.flatMap fun e=> [e.key,e.val])[2*i]? =(l[i]?).map (·.key)/\(l.flatMap fun e=> [e.key,e.val])[2*i+1]? =(l[i]?).map (·.val):=by
 induction l with
 |nil=>intro i;simp
 |cons e l ih=>
  intro i
  cases i with
  |zero=>simp
  |succ i=>
   obtain⟨h1,h2⟩:=ih i
   rw[Bq,show 2*(i+1)=2*i+1+1 by omega]
   simp[h1,h2]
theorem yd3 (l:List MapEntry):(l.flatMap fun e=> [e.key,e.val]).length=2*l.length:=by
 induction l with
 |nil=>rfl
 |cons e l ih=>rw[Bq];simp[ih];omega
theorem yX9 {es:Array MapEntry} {i:Nat} {k v:V} (h:All2 (RdA w L σ β) kvs (zv5 es)) (hk:RdA w L σ β k x) (hv:RdA w L σ β v y) (hi:i<es.size):
  All2 (RdA w L σ β) (zw6 kvs i k v) (zv5 (es.modify i fun e=>{e with key:=x,val:=y})):=by
 have hl:=h.length
 unfold zv5 at h hl⊢
 rw[yd3]at hl
 simp only[C4]at hl
 refine All2.of ?_ fun j p q hp hq=> ?_
 .unfold zw6;rw[yd3];simp[hl]
 .unfold zw6 at hp
  obtain⟨m,hm⟩: ∃m,j=2*m∨j=2*m+1:=⟨j/2,om⟩
  rcases hm with rfl|rfl
  .rw[(zu9 _ m).1]at hq
   rw[Ah om]at hp
   rw[Aq,E5]at hq
   by_cases e1:i=m
   .subst e1
    rw[if_pos rfl]at hq
    rw[Ar om]at hp
    cases hp
    rw[Av hi]at hq
    simp at hq
    subst hq;exact hk
   .rw[if_neg e1]at hq
    rw[Ah om]at hp
    obtain⟨y',aa,r⟩:=h.get _ _ hp
    rw[(zu9 _ m).1,Aq]at aa
    rw[hq]at aa;cases aa;exact r
  .rw[(zu9 _ m).2]at hq
   rw[Aq,E5]at hq
   by_cases e1:i=m
   .subst e1
    rw[if_pos rfl]at hq
    rw[Ar (by simp;omega)]at hp
    cases hp
    rw[Av hi]at hq
    simp at hq
    subst hq;exact hv
   .rw[if_neg e1]at hq
    rw[Ah om,Ah om]at hp
    obtain⟨y',aa,r⟩:=h.get _ _ hp
    rw[(zu9 _ m).2,Aq]at aa
    rw[hq]at aa;cases aa;exact r
theorem ym4 (es:Array MapEntry) (i:Nat) (x y:Value):(es.modify i fun e=>{e with key:=x,val:=y}).toList.map (·.born)=es.toList.map (·.born):=by
 apply C7
 intro j
 simp only[B3,Aq,E5]
 by_cases aa:i=j
 .subst aa
  cases he:es[i]? with
  |none=>simp
  |some e=>simp
 .simp[aa]
def xG (m:Option (Kk×V)) (σ:St) (x k v:V):R:=
 match m,x with
 |some (kd,_),.mp id=>if zn5 kd k=true/\wE v=true then(match σ[id]? with
  |some (.mp kvs bs clk)=>(match zh7 kd k kvs 0 with
   |some (some (i,_))=> .st .u (σ.set id (.mp (zw6 kvs i k v) bs clk))
   |some none=> .st .u (σ.set id (.mp (kvs++ [k,v]) (bs++ [clk]) (clk+1)))
   |none=> .fail)
  |_=> .fail)else .fail
 |_,_=> .fail
theorem yd7 {k:Kk} {v:V} (h:zn5 k v=true):wE v=true:=by
 cases k with
 |one k=>cases k<;>cases v<;>first|rfl|simp[zn5,zd6]at h
 |st ks=>cases v<;>first|rfl|simp[zn5]at h
theorem yZ1 {k v:Value} {et:TypeId} {kd:Kk} {bs:List Nat} {clk id:Nat} {kv vv:V} (hm:Mem c w L σ β) (hu:P.underlying t=some (.map kt et)) (ag:kkT P kt=some kd)
  (hx:RdS w L σ β (.mp id) x) (ae:zn5 kd kv=true) (hk:RdS w L σ β kv k) (hv:RdA w L σ β vv v) (hσ:σ[id]? =some (.mp kvs bs clk)) {q:Option (Nat×V)} (hf:zh7 kd kv kvs 0=some q):
  ∃w',(Instr.mapUpdate t x k v).run P w= .ok () w'/\Le w L w' L/\(match q with
   |some (i,_)=>Mem c w' L (σ.set id (.mp (zw6 kvs i kv vv) bs clk)) β/\Ext σ β (σ.set id (.mp (zw6 kvs i kv vv) bs clk)) β
   |none=>Mem c w' L (σ.set id (.mp (kvs++ [kv,vv]) (bs++ [clk]) (clk+1))) β/\Ext σ β (σ.set id (.mp (kvs++ [kv,vv]) (bs++ [clk]) (clk+1))) β):=by
 have ah:RdA w L σ β kv k:=yq1 hk (yd7 ae)
 have ai: ∀em,(Instr.checkKey em 10000 kt k).run P w= .ok () w:=fun em=>zA7 ag ae hk em
 obtain⟨b,hβ,rfl⟩:=zN0 hx
 obtain⟨b',es,e1,hh,hl,ab,aj⟩:=hm.objs _ _ _ hσ hβ
 cases e1
 have ak:b<w.heap.size:=(Au.1 hh).1
 have aa: ∀o,Ext σ β (σ.set id o) β:=fun o=>Ext.setOther hσ (fun _ _ q=>by cases q) (fun _ _ q=>by cases q) (fun q=>by cases q) o
 have af: ∀ob:Go.Obj,(setObj b ob).run P w= .ok () (yG w b ob):=fun ob=>by rw[MapKept.run_setObj_map ob hh];rfl
 rcases zr0 ag ae hk ab hf with ⟨rfl,e2⟩|⟨j,v',e',rfl,e2,e3,_,_,kk,e6,e7⟩
 .have ad:=e2
  refine⟨yG w b (.map (es.push {key:=k,val:=v,born:=clk}) (clk+1)), ?_, ?_⟩
  .simp[Instr.mapUpdate,run_underlying hu,MapKept.run_getObj_map hh,ai,ad,af]
  .have key:=hm.setOb (o:= .mp (kvs++ [kv,vv]) (bs++ [clk]) (clk+1)) hσ hβ rfl hl (.map (es.push {key:=k,val:=v,born:=clk}) (clk+1)) (aa _) (fun k h=>by simpa[excl]using h.symm) fun hle=>by
    refine⟨b,_,rfl,xK _ _ _ ak,hl, ?_,by simp[aj]⟩
    have:All2 (RdA w L σ β) (kvs++ [kv,vv]) (zv5 (es.push {key:=k,val:=v,born:=clk})):=by
     simp only[zv5,Array.toList_push,Ed]
     exact All2.append ab ⟨ah,hv,tV⟩
    exact this.imp fun _ _=>RdA.mono hle (aa _)
   exact⟨key.2,key.1,aa _⟩
 .have ad:=e2
  have hj:es[j]? =some e':=by simpa using e3
  have al:j<es.size:=(Au.1 hj).1
  have an:e'.key=k:=by
   obtain⟨y,hy,r⟩:=ab.get _ _ e6
   unfold zv5 at hy
   rw[(zu9 _ j).1,e3]at hy
   simp at hy
   subst hy
   exact(yn1 hk (RdS.of_a r) e7).symm
  refine⟨yG w b (.map (es.modify j fun e=>{e with key:=k,val:=v}) clk), ?_, ?_⟩
  .simp[Instr.mapUpdate,run_underlying hu,MapKept.run_getObj_map hh,ai,ad,af,hj,an,yp0 ae hk]
  .have key:=hm.setOb (o:= .mp (zw6 kvs j kv vv) bs clk) hσ hβ rfl hl (.map (es.modify j fun e=>{e with key:=k,val:=v}) clk) (aa _) (fun k h=>by simpa[excl]using h.symm) fun hle=>by
    refine⟨b,_,rfl,xK _ _ _ ak,hl,(yX9 ab ah hv al).imp fun _ _=>RdA.mono hle (aa _),by rw[ym4];exact aj⟩
   simp only[Af]
   exact⟨key.2,key.1,aa _⟩
theorem zL4 {o:Oper} (t:TypeId) (x k v:Operand) (h:Sim c nt e σ a w L β) (ho:execOp a.eval o=(do Instr.mapUpdate t (a.eval x) (a.eval k) (a.eval v);pure .skip)):
  ROk (xG (mapT P t) σ (zD e x) (zD e k) (zD e v)) σ (Yield P c o a w L σ β):=by
 have hx:=h.eval x
 have hk:=h.eval k
 have hv:=h.eval v
 unfold xG
 split
 .rename_i kd z id hm hid
  obtain⟨kt,et,i,zv,hu,ae,_⟩:=zB0 hm
  rw[hid]at hx
  split
  .rename_i hc
   split
   .rename_i kvs bs clk hσ
    split
    .rename_i i0 v0 hf
     obtain⟨w',aa,hle,ad,ab⟩:=yZ1 h.mem hu ae hx hc.1 hk (yq1 hv hc.2) hσ hf
     exact⟨undef,w',L,β,.inr ⟨by simp[ho,aa],rfl⟩,ad,hle,ab,tV⟩
    .rename_i hf
     obtain⟨w',aa,hle,ad,ab⟩:=yZ1 h.mem hu ae hx hc.1 hk (yq1 hv hc.2) hσ hf
     exact⟨undef,w',L,β,.inr ⟨by simp[ho,aa],rfl⟩,ad,hle,ab,tV⟩
    .trivial
   .trivial
  .trivial
 .trivial
theorem yx0 {pos:String} (t:TypeId) (x k v:Operand) (h:Sim c nt e σ a w L β):
  ROk (xG (mapT P t) σ (zD e x) (zD e k) (zD e v)) σ (Yield P c ⟨dst,.mapUpdate t x k v,ty,pos,aft,g⟩ a w L σ β):=zL4 t x k v h rfl
theorem xi4 {pos:String} (t:TypeId) (x k v:Operand) (h:Sim c nt e σ a w L β):
  ROk (xG (mapT P t) σ (zD e x) (zD e k) (zD e v)) σ (Yield P c ⟨dst,.insert t x k v,ty,pos,aft,g⟩ a w L σ β):=zL4 t x k v h rfl
theorem zK9 {α β:Type} (f:α->β): ∀(l:List α) (i:Nat),(l.eraseIdx i).map f=(l.map f).eraseIdx i
 | [],_=>rfl
 |_::_,0=>rfl
 |x::l,i+1=>by simp[zK9 f l i]
def zO3 (kvs:List V) (i:Nat):List V:=kvs.take (2*i)++kvs.drop (2*i+2)
def zq6 (m:Option (Kk×V)) (σ:St) (x k:V):R:=
 match m,x with
 |some (kd,_),.mp id=>if zn5 kd k=true then(match σ[id]? with
  |some (.mp kvs bs clk)=>(match zh7 kd k kvs 0 with
   |some (some (i,_))=> .st (.tup []) (σ.set id (.mp (zO3 kvs i) (bs.eraseIdx i) clk))
   |some none=> .st (.tup []) (σ.set id (.mp kvs bs clk))
   |none=> .fail)
  |_=> .fail)else .fail
 |some (kd,_),.raw (.map none)=>if zn5 kd k=true then .ok (.tup [])else .fail
 |_,_=> .fail
theorem yO7 (l:List MapEntry): ∀(i:Nat),i<l.length->(l.eraseIdx i).flatMap (fun e=> [e.key,e.val])=(l.flatMap fun e=> [e.key,e.val]).take (2*i)++(l.flatMap fun e=> [e.key,e.val]).drop (2*i+2):=by
 induction l with
 |nil=>intro i h;simp at h
 |cons e l ih=>
  intro i h
  cases i with
  |zero=>simp
  |succ i=>
   rw[List.eraseIdx_cons_succ,Bq,Bq,ih i (by simpa using h)]
   rw[show 2*(i+1)=2*i+1+1 by omega]
   simp
theorem xi3 {pos:String} (t t':TypeId) (x k:Operand) (h:Sim c nt e σ a w L β):
  ROk (zq6 (mapT P t) σ (zD e x) (zD e k)) σ (Yield P c ⟨dst,.call ⟨.builtin .delete, #[x,k], #[t,t']⟩,ty,pos,aft,g⟩ a w L σ β):=by
 have hx:=h.eval x
 have hk:=h.eval k
 unfold zq6
 split
 .rename_i kd z id hm hid
  obtain⟨kt,et,i,zv,hu,ae,_⟩:=zB0 hm
  rw[hid]at hx
  split
  .rename_i af
   have ah: ∀em,(Instr.checkKey em 10000 kt (a.eval k)).run P w= .ok () w:=fun em=>zA7 ae af hk em
   obtain⟨b,hβ,hv⟩:=zN0 hx
   split
   .rename_i kvs bs clk hσ
    obtain⟨b',es,e1,hh,hl,ab,aj⟩:=h.mem.objs _ _ _ hσ hβ
    cases e1
    have ak:b<w.heap.size:=(Au.1 hh).1
    have aa: ∀o,Ext σ β (σ.set id o) β:=fun o=>Ext.setOther hσ (fun _ _ q=>by cases q) (fun _ _ q=>by cases q) (fun q=>by cases q) o
    have ai: ∀ob:Go.Obj,(setObj b ob).run P w= .ok () (yG w b ob):=fun ob=>by rw[MapKept.run_setObj_map ob hh];rfl
    split
    .rename_i i0 v0 hf
     rcases zr0 ae af hk ab hf with ⟨e1,_⟩|⟨j,v',e',e1,e2,e3,_,_,kk,e6,e7⟩
     .cases e1
     .cases e1
      have ag:=e2
      have al:i0<es.toList.length:=(A5.1 e3).1
      have an:i0<es.size:=by simpa using al
      have ad:(es.eraseIdxIfInBounds i0).toList=es.toList.eraseIdx i0:=by
       unfold Array.eraseIdxIfInBounds
       rw[dif_pos an];simp
      have key:=h.mem.setOb (o:= .mp (zO3 kvs i0) (bs.eraseIdx i0) clk) hσ hβ rfl hl (.map (es.eraseIdxIfInBounds i0) clk) (aa _) (fun k h=>by simpa[excl]using h.symm) fun hle=>by
       refine⟨b,_,rfl,xK _ _ _ ak,hl, ?_,by rw[ad,<-aj,zK9]⟩
       have:All2 (RdA w L σ β) (zO3 kvs i0) (zv5 (es.eraseIdxIfInBounds i0)):=by
        unfold zv5 zO3
        rw[ad,yO7 _ _ al]
        exact(All2.take _ ab).append (All2.drop _ ab)
       exact this.imp fun _ _=>RdA.mono hle (aa _)
      refine⟨.tuple #[],_,L,β,.inl ?_,key.1,key.2,aa _,[],rfl,tV⟩
      simp[execOp,resolve,invoke,builtin,Builtin.delete_,run_underlying hu,hv,MapKept.run_getObj_map hh,ah,ag,ai]
    .rename_i hf
     rcases zr0 ae af hk ab hf with ⟨_,e2⟩|⟨j,v',e',e1,_⟩
     .have ag:=e2
      have key:=h.mem.setOb (o:= .mp kvs bs clk) hσ hβ rfl hl (.map es clk) (aa _) (fun k h=>by simpa[excl]using h.symm) fun hle=>by
       exact⟨b,_,rfl,xK _ _ _ ak,hl,ab.imp fun _ _=>RdA.mono hle (aa _),aj⟩
      refine⟨.tuple #[],_,L,β,.inl ?_,key.1,key.2,aa _,[],rfl,tV⟩
      simp[execOp,resolve,invoke,builtin,Builtin.delete_,run_underlying hu,hv,MapKept.run_getObj_map hh,ah,ag,ai]
     .cases e1
    .trivial
   .trivial
  .trivial
 .rename_i kd z hm hid
  obtain⟨kt,et,i,zv,hu,ae,_⟩:=zB0 hm
  rw[hid]at hx
  have hv:=zE0 hx
  split
  .rename_i af
   have ah: ∀em,(Instr.checkKey em 10000 kt (a.eval k)).run P w= .ok () w:=fun em=>zA7 ae af hk em
   refine Yield.pure h (x:= .tuple #[]) ?_ ⟨[],rfl,tV⟩
   simp[execOp,resolve,invoke,builtin,Builtin.delete_,run_underlying hu,hv,ah]
  .trivial
 .trivial
theorem zq1 {et:TypeId} (hb:P.underlying t=some (.map kt et)) (m:Option Nat) (w:World):(Op.equal t (.map m) (.map none)).run P w= .ok m.isNone w:=by
 have key: ∀d,(Op.equalIn (d+1) t (.map m) (.map none)).run P w= .ok m.isNone w:=fun d=>by
  cases m<;>simp[Op.equalIn,run_underlying hb]
 exact key 9999
def zf6:Operand->Bool
 | .const (.map none)=>true
 |_=>false
def zq7 (op:BinOp) (m:Bool) (x:V):R:=
 match m,x with
 |true,.mp _=>(match op with| .eql=> .ok (.bool false)| .neq=> .ok (.bool true)|_=> .fail)
 |true,.raw (.map none)=>(match op with| .eql=> .ok (.bool true)| .neq=> .ok (.bool false)|_=> .fail)
 |_,_=> .fail
theorem xi7 {pos:String} (op:BinOp) (t t':TypeId) (x y:Operand) (hy:zf6 y=true) (h:Sim c nt e σ a w L β):
  ROk (zq7 op (zh8 P t) (zD e x)) σ (Yield P c ⟨dst,.binOp op t x y t',ty,pos,aft,g⟩ a w L σ β):=by
 have hx:=h.eval x
 have aa:a.eval y= .map none:=by
  unfold zf6 at hy
  split at hy
  .rfl
  .cases hy
 unfold zq7
 split
 .rename_i id hm hid
  unfold zh8 at hm
  split at hm
  .rename_i kt et hu
   rw[hid]at hx
   obtain⟨b,hβ,hv⟩:=zN0 hx
   split
   .refine Yield.pure h (x:= .bool false) ?_ (RdP.bool _)
    simp[execOp,eqGuard,binOp,zq1 hu,hv,aa]
   .refine Yield.pure h (x:= .bool true) ?_ (RdP.bool _)
    simp[execOp,eqGuard,binOp,zq1 hu,hv,aa]
   .trivial
  .cases hm
 .rename_i hm hid
  unfold zh8 at hm
  split at hm
  .rename_i kt et hu
   rw[hid]at hx
   have hv:=zE0 hx
   split
   .refine Yield.pure h (x:= .bool true) ?_ (RdP.bool _)
    simp[execOp,eqGuard,binOp,zq1 hu,hv,aa]
   .refine Yield.pure h (x:= .bool false) ?_ (RdP.bool _)
    simp[execOp,eqGuard,binOp,zq1 hu,hv,aa]
   .trivial
  .cases hm
 .trivial
def zx7 (m:Bool) (σ:St) (x:V):R:=
 match m,x with
 |true,.mp id=>(match σ[id]? with|some (.mp _ _ clk)=> .st (.ptr σ.length 0) (σ++ [.it (some id) clk [] clk])|_=> .fail)
 |true,.raw (.map none)=> .st (.ptr σ.length 0) (σ++ [.it none 0 [] 0])
 |_,_=> .fail
theorem xw1 {pos:String} (t:TypeId) (x:Operand) (h:Sim c nt e σ a w L β):
  ROk (zx7 (zh8 P t) σ (zD e x)) σ (Yield P c ⟨dst,.range t x,ty,pos,aft,g⟩ a w L σ β):=by
 have hx:=h.eval x
 have rd: ∀(o:Ob) (w':World),RdS w' L (σ++ [o]) (β++ [.pointer (some ⟨w.heap.size,0,none⟩)]) (.ptr σ.length 0) (.pointer (some ⟨w.heap.size,0,none⟩)):=fun o w'=>⟨w.heap.size,by rw[<-h.mem.len];simp,rfl⟩
 unfold zx7
 split
 .rename_i id hm hid
  unfold zh8 at hm
  split at hm
  .rename_i kt et hu
   rw[hid]at hx
   obtain⟨b,hβ,hv⟩:=zN0 hx
   split
   .rename_i kvs bs clk hσ
    obtain⟨b',es,e1,hh,hl,ad,ae⟩:=h.mem.objs _ _ _ hσ hβ
    cases e1
    have key:=h.mem.newOb (.mapIter (some b) clk #[] clk) (.it (some id) clk [] clk) (fun hle ab=>⟨w.heap.size,some b,rfl,yD _ _,h.mem.lim _ (A6 _),b,ab.ptr _ _ hβ,rfl⟩) fun b hb=>by simp[excl]at hb;exact hb.symm
    refine⟨_,_,L,_,.inl ?_,key.1,key.2,Ext.push σ β h.mem.len _ _,rd _ _⟩
    have aa:=run_range_map (P:=P) w t kt et b es clk hu hh
    simp[execOp,hv,aa]
   .trivial
  .cases hm
 .rename_i hm hid
  unfold zh8 at hm
  split at hm
  .rename_i kt et hu
   rw[hid]at hx
   have hv:=zE0 hx
   have key:=h.mem.newOb (.mapIter none 0 #[] 0) (.it none 0 [] 0) (fun hle ab=>⟨w.heap.size,none,rfl,yD _ _,h.mem.lim _ (A6 _),rfl⟩) fun b hb=>by simp[excl]at hb;exact hb.symm
   refine⟨_,_,L,_,.inl ?_,key.1,key.2,Ext.push σ β h.mem.len _ _,rd _ _⟩
   have aa:=run_range_nilMap (P:=P) w t kt et hu
   simp[execOp,hv,aa]
  .cases hm
 .trivial
def zH0 (seen:List Nat):List V->List Nat->List (V×V×Nat)
 |k::v::kvs,b::bs=>if seen.contains b then zH0 seen kvs bs else(k,v,b)::zH0 seen kvs bs
 |_,_=> []
def zh4 (open_:Bool) (σ:St) (x:V):R:=
 match x with
 | .ptr i 0=>(match σ[i]? with
  |some (.it none _ _ _)=> .ok (.tup [.bool false])
  |some (.it (some id) since seen last)=>(match σ[id]? with
   |some (.mp kvs bs clk)=>if(bs.all fun b=>decide (b<since))=true/\since<=last then(match zH0 seen kvs bs with
    | []=> .ok (.tup [.bool false])
    | [(k,v,b)]=> .st (.tup [.bool true,k,v]) (σ.set i (.it (some id) since (seen++ [b]) clk))
    |l=>if open_ then .any (l.map fun p=>(.tup [.bool true,p.1,p.2.1],σ.set i (.it (some id) since (seen++ [p.2.2]) clk)))else .fail)else .fail
   |_=> .fail)
  |_=> .fail)
 |_=> .fail
theorem yY1: ∀(kvs:List V) (bs:List Nat) (es:List MapEntry) (seen:List Nat),All2 (RdA w L σ β) kvs (es.flatMap fun e=> [e.key,e.val])->es.map (·.born)=bs->
  All2 (fun p (e:MapEntry)=>RdA w L σ β p.1 e.key/\RdA w L σ β p.2.1 e.val/\e.born=p.2.2) (zH0 seen kvs bs) (es.filter fun e=> !seen.contains e.born)
 | [],bs,[],seen,_,hb=>by simp at hb;subst hb;trivial
 | [],_,e::es,_,ha,_=>by simp[All2]at ha
 | [_],_,[],_,ha,_=>by simp[All2]at ha
 | [_],_,e::es,_,ha,_=>by simp[All2]at ha
 |_::_::_,_,[],_,ha,_=>by simp[All2]at ha
 |k::v::kvs,bs,e::es,seen,ha,hb=>by
  simp only[Bq,Bu,Ck,All2]at ha
  obtain⟨h1,h2,h3⟩:=ha
  cases bs with
  |nil=>simp at hb
  |cons b bs=>
   simp only[As,List.cons.injEq]at hb
   obtain⟨rfl,hb⟩:=hb
   have ih:=yY1 kvs bs es seen h3 hb
   rw[zH0,Co]
   by_cases hc:seen.contains e.born=true
   .rw[if_pos hc,if_neg (by rw[hc];simp)];exact ih
   .rw[if_neg hc,if_pos (by simpa using hc)];exact⟨⟨h1,h2,rfl⟩,ih⟩
theorem xE7 {w1:World} (h:w1=w∨w1=w.drew) (hm:Mem c w L σ β):Mem c w1 L σ β/\Le w L w1 L:=by
 rcases h with rfl|rfl
 .exact⟨hm,Le.refl _ _⟩
 .exact hm.drew
theorem xa1 {pos:String} (open_:Bool) (x:Operand) (h:Sim c nt e σ a w L β):
  ROk (zh4 open_ σ (zD e x)) σ (Yield P c ⟨dst,.next x false,ty,pos,aft,g⟩ a w L σ β):=by
 have hx:=h.eval x
 unfold zh4
 split
 .rename_i i hid
  rw[hid]at hx
  obtain⟨r,hβ,hv⟩:=hx
  split
  .rename_i since seen last hσ
   obtain⟨r',mo,e1,hh,hl,ai⟩:=h.mem.objs _ _ _ hσ hβ
   cases e1
   simp only at ai
   subst ai
   refine Yield.pure h (x:= .tuple #[.bool false]) ?_ ⟨[.bool false],rfl,RdA.of_cell (RdC.of_pure (.bool _)),tV⟩
   simp[execOp,hv,Instr.next,getObj,Sem.run,hh]
  .rename_i id since seen last hσ
   obtain⟨r',mo,e1,hh,hl,b,aj,rfl⟩:=h.mem.objs _ _ _ hσ hβ
   cases e1
   split
   .rename_i kvs bs clk aq
    obtain⟨b',es,e1,ar,a1,ak,al⟩:=h.mem.objs _ _ _ aq aj
    cases e1
    split
    .rename_i hc
     have a6:r<w.heap.size:=(Au.1 hh).1
     have ab:=yY1 kvs bs es.toList seen ak al
     have au:(leftOf es seen.toArray).toList=es.toList.filter fun e=> !seen.contains e.born:=by
      unfold leftOf;simp
     rw[<-au]at ab
     have hold: ∀x∈es.toList,x.born<since:=fun x hx=>by
      have:=Aj.1 hc.1 x.born (by rw[<-al];exact Ag.2 ⟨x,hx,rfl⟩)
      simpa using this
     have ad:=run_next_at (P:=P) w ty r b since last seen.toArray es clk hh ar hold hc.2
     have ae: ∀o,Ext σ β (σ.set i o) β:=fun o=>Ext.setOther hσ (fun _ _ q=>by cases q) (fun _ _ q=>by cases q) (fun q=>by cases q) o
     have step: ∀(q:V×V×Nat) (en:MapEntry) (w1:World),(w1=w∨w1=w.drew)->RdA w L σ β q.1 en.key->RdA w L σ β q.2.1 en.val->en.born=q.2.2->
       (Instr.next (.pointer (some ⟨r,0,none⟩)) false ty).run P w= .ok (.tuple #[.bool true,en.key,en.val]) (ChangeMaps.setBlock w1 r (.mapIter (some b) since (seen.toArray.push en.born) clk))->
       Yield P c ⟨dst,.next x false,ty,pos,aft,g⟩ a w L σ β (.tup [.bool true,q.1,q.2.1]) (σ.set i (.it (some id) since (seen++ [q.2.2]) clk)):=by
      intro q en w1 af h1 h2 h3 aa
      obtain⟨av,ag⟩:=xE7 af h.mem
      have aw:w1.heap[r]? =some (.mapIter (some b) since seen.toArray last):=by rcases af with rfl|rfl<;>exact hh
      have an:r<w1.heap.size:=(Au.1 aw).1
      have key:=av.setOb (o:= .it (some id) since (seen++ [q.2.2]) clk) hσ hβ rfl hl (.mapIter (some b) since (seen.toArray.push en.born) clk) (ae _) (fun k h=>by simpa[excl]using h.symm) fun hle=>by
       refine⟨r,some b,rfl, ?_,hl,b,aj,rfl⟩
       rw[xK _ _ _ an,h3]
       simp
      refine⟨.tuple #[.bool true,en.key,en.val],yG w1 r (.mapIter (some b) since (seen.toArray.push en.born) clk),L,β,.inl ?_,key.1,ag.trans key.2,ae _, ?_⟩
      .simp only[execOp,hv,Sem.run_bind,aa,Result.andThen_ok,Sem.run_pure]
       rfl
      .exact⟨[.bool true,en.key,en.val],rfl,RdA.of_cell (RdC.of_pure (.bool _)),h1.mono (ag.trans key.2) (ae _),h2.mono (ag.trans key.2) (ae _),tV⟩
     split
     .rename_i ax
      rw[ax]at ab
      have h0:(leftOf es seen.toArray).size=0:=by
       have:=ab.length
       simpa using this.symm
      rcases ad with ⟨_,aa⟩|⟨en,ah,_⟩
      .refine Yield.pure h (x:= .tuple #[.bool false]) ?_ ⟨[.bool false],rfl,RdA.of_cell (RdC.of_pure (.bool _)),tV⟩
       simp only[execOp,hv,Sem.run_bind,aa,Result.andThen_ok,Sem.run_pure]
      .obtain⟨_,hq,_⟩:=All2.mem_r ab ah
       simp at hq
     .rename_i k v b0 ay
      rw[ay]at ab
      have h0:(leftOf es seen.toArray).size=1:=by
       have:=ab.length
       simpa using this.symm
      rcases ad with ⟨hz,_⟩|⟨en,ah,w1,af,aa⟩
      .omega
      .obtain⟨q,hq,h1,h2,h3⟩:=All2.mem_r ab ah
       simp at hq
       subst hq
       exact step _ en w1 af h1 h2 h3 aa
     .rename_i l ao az
      split
      case isFalse=>trivial
      rcases ad with ⟨hz,_⟩|⟨en,ah,w1,af,aa⟩
      .have:=ab.length
       simp[hz]at this
       exact absurd this ao
      .obtain⟨q,hq,h1,h2,h3⟩:=All2.mem_r ab ah
       exact⟨_,Ag.2 ⟨q,hq,rfl⟩,step q en w1 af h1 h2 h3 aa⟩
    .trivial
   .trivial
  .trivial
 .trivial
def xP (m:Option (Kk×V)) (σ:St) (x k:V):R:=
 match m,x with
 |some (kd,z),.mp id=>if zn5 kd k=true then(match σ[id]? with
  |some (.mp kvs bs clk)=>(match zh7 kd k kvs 0 with
   |some (some (i,v))=>(match bs[i]? with|some b=> .ok (.tup [v,.int .i64 (b:Int)])|none=> .fail)
   |some none=> .st (.tup [z,.int .i64 (clk:Int)]) (σ.set id (.mp (kvs++ [k,z]) (bs++ [clk]) (clk+1)))
   |none=> .fail)
  |_=> .fail)else .fail
 |_,_=> .fail
theorem yH0 (es:Array MapEntry) (i:Nat) (f:MapEntry->MapEntry) (h: ∀e,es[i]? =some e->f e=e):es.modify i f=es:=by
 apply Array.ext
 .simp
 .intro j h1 h2
  rw[Array.getElem_modify]
  split
  .rename_i q
   subst q
   exact h _ (Av h2)
  .rfl
theorem yH7 {pos:String} (t:TypeId) (x k:Operand) (h:Sim c nt e σ a w L β):
  ROk (xP (mapT P t) σ (zD e x) (zD e k)) σ (Yield P c ⟨dst,.mapEntry t x k,ty,pos,aft,g⟩ a w L σ β):=by
 have hx:=h.eval x
 have hk:=h.eval k
 unfold xP
 split
 .rename_i kd z id hm hid
  obtain⟨kt,et,i,zv,hu,af,hi,hz,av,ai⟩:=zB0 hm
  rw[hid]at hx
  split
  .rename_i ad
   have aj: ∀em,(Instr.checkKey em 10000 kt (a.eval k)).run P w= .ok () w:=fun em=>zA7 af ad hk em
   have ao:(zeroValue et).run P w= .ok zv w:=by simp[zeroValue,typeInfo,hi,hz]
   obtain⟨b,hβ,hv⟩:=zN0 hx
   split
   .rename_i kvs bs clk hσ
    obtain⟨b',es,e1,hh,hl,aa,ag⟩:=h.mem.objs _ _ _ hσ hβ
    cases e1
    have ak:b<w.heap.size:=(Au.1 hh).1
    have ab: ∀o,Ext σ β (σ.set id o) β:=fun o=>Ext.setOther hσ (fun _ _ q=>by cases q) (fun _ _ q=>by cases q) (fun q=>by cases q) o
    have ae: ∀ob:Go.Obj,(setObj b ob).run P w= .ok () (yG w b ob):=fun ob=>by rw[MapKept.run_setObj_map ob hh];rfl
    split
    .rename_i i0 v0 hf
     split
     .rename_i b0 al
      rcases zr0 af ad hk aa hf with ⟨e1,_⟩|⟨j,v',e',e1,e2,e3,_,e5,kk,e6,e7⟩
      .cases e1
      .simp only[Option.some.injEq,Prod.mk.injEq]at e1
       obtain⟨rfl,rfl⟩:=e1
       have hj:es[i0]? =some e':=by simpa using e3
       have an:e'.key=a.eval k:=by
        obtain⟨y,hy,r⟩:=aa.get _ _ e6
        unfold zv5 at hy
        rw[(zu9 _ i0).1,e3]at hy
        simp at hy
        subst hy
        exact(yn1 hk (RdS.of_a r) e7).symm
       have aq:e'.born=b0:=by
        rw[<-ag,B3,e3]at al
        simpa using al
       have ah:(es.modify i0 fun e=>{e with key:=a.eval k})=es:=yH0 es i0 _ fun e he=>by
        rw[hj]at he;cases he;rw[<-an]
       have ar:σ.set id (.mp kvs bs clk)=σ:=yB σ id _ hσ
       have key:=h.mem.setOb (o:= .mp kvs bs clk) hσ hβ rfl hl (.map es clk) (ab _) (fun k h=>by simpa[excl]using h.symm) fun hle=>by
        exact⟨b,_,rfl,xK _ _ _ ak,hl,aa.imp fun _ _=>RdA.mono hle (ab _),ag⟩
       rw[ar]at key
       refine⟨.tuple #[e'.val,.int .i64 (b0:Int)],_,L,β,.inl ?_,key.1,key.2,Ext.refl _ _,[e'.val,.int .i64 (b0:Int)],rfl,e5.mono key.2 (Ext.refl _ _),RdA.of_cell (RdC.of_pure (.int _ _)),tV⟩
       simp[execOp,Instr.mapEntry,run_underlying hu,hv,MapKept.run_getObj_map hh,aj,e2,ae,hj,an,yp0 ad hk,ah,aq,goInt]
     .trivial
    .rename_i hf
     rcases zr0 af ad hk aa hf with ⟨_,e2⟩|⟨j,v',e',e1,_⟩
     .have au:RdA w L σ β (zD e k) (a.eval k):=yq1 hk (yd7 ad)
      have key:=h.mem.setOb (o:= .mp (kvs++ [zD e k,z]) (bs++ [clk]) (clk+1)) hσ hβ rfl hl (.map (es.push {key:=a.eval k,val:=zv,born:=clk}) (clk+1)) (ab _) (fun k h=>by simpa[excl]using h.symm) fun hle=>by
       refine⟨b,_,rfl,xK _ _ _ ak,hl, ?_,by simp[ag]⟩
       have:All2 (RdA w L σ β) (kvs++ [zD e k,z]) (zv5 (es.push {key:=a.eval k,val:=zv,born:=clk})):=by
        simp only[zv5,Array.toList_push,Ed]
        exact All2.append aa ⟨au,ai _ _ _ _,tV⟩
       exact this.imp fun _ _=>RdA.mono hle (ab _)
      refine⟨.tuple #[zv,.int .i64 (clk:Int)],_,L,β,.inl ?_,key.1,key.2,ab _,[zv,.int .i64 (clk:Int)],rfl,ai _ _ _ _,RdA.of_cell (RdC.of_pure (.int _ _)),tV⟩
      simp[execOp,Instr.mapEntry,run_underlying hu,hv,MapKept.run_getObj_map hh,aj,e2,ae,ao,goInt]
     .cases e1
    .trivial
   .trivial
  .trivial
 .trivial
def xE (σ:St) (x s v:V):R:=
 match x,s with
 | .mp id,.int _ n=>if wE v=true then(match σ[id]? with
  |some (.mp kvs bs clk)=>(match bs.findIdx? fun(b:Nat)=>(b:Int)==n with
   |some i=> .st .u (σ.set id (.mp (kvs.set (2*i+1) v) bs clk))
   |none=> .fail)
  |_=> .fail)else .fail
 |_,_=> .fail
theorem yl5 {pos:String} (t:TypeId) (x s v:Operand) (h:Sim c nt e σ a w L β):
  ROk (xE σ (zD e x) (zD e s) (zD e v)) σ (Yield P c ⟨dst,.entryStore t x s v,ty,pos,aft,g⟩ a w L σ β):=by
 have hx:=h.eval x
 have hs:=h.eval s
 have hv:=h.eval v
 unfold xE
 split
 .rename_i id k n hid ai
  rw[hid]at hx
  rw[ai]at hs
  have hs:=yE hs
  split
  .rename_i hc
   obtain⟨b,hβ,aj⟩:=zN0 hx
   split
   .rename_i kvs bs clk hσ
    obtain⟨b',es,e1,hh,hl,aa,ad⟩:=h.mem.objs _ _ _ hσ hβ
    cases e1
    have ak:b<w.heap.size:=(Au.1 hh).1
    have ab: ∀o,Ext σ β (σ.set id o) β:=fun o=>Ext.setOther hσ (fun _ _ q=>by cases q) (fun _ _ q=>by cases q) (fun q=>by cases q) o
    have ae: ∀ob:Go.Obj,(setObj b ob).run P w= .ok () (yG w b ob):=fun ob=>by rw[MapKept.run_setObj_map ob hh];rfl
    split
    .rename_i i hf
     have af:(es.findIdx? fun e=>(e.born:Int)==n)=some i:=by
      rw[<-ad,List.findIdx?_map]at hf
      have hq:es.findIdx? (fun e=>(e.born:Int)==n)=es.toList.findIdx? fun e=>(e.born:Int)==n:=by
       obtain⟨l⟩:=es
       simp
      rw[hq]
      exact hf
     have hi:i<es.size:=by
      obtain⟨h1,_⟩:=Array.findIdx?_eq_some_iff_getElem.1 af
      exact h1
     have al:RdA w L σ β (zD e v) (a.eval v):=yq1 hv hc
     have hlen:=aa.length
     unfold zv5 at hlen
     rw[yd3]at hlen
     simp only[C4]at hlen
     have an:2*i<kvs.length:=om
     have ag:RdA w L σ β kvs[2*i] es[i].key:=by
      obtain⟨y,hy,r⟩:=aa.get (2*i) _ (A4 an)
      unfold zv5 at hy
      rw[(zu9 _ i).1,Aq,Av hi]at hy
      simp at hy
      subst hy;exact r
     have ao:zw6 kvs i kvs[2*i] (zD e v)=kvs.set (2*i+1) (zD e v):=by
      unfold zw6;rw[List.set_getElem_self]
     have ah:(es.modify i fun e=>{e with val:=a.eval v})=es.modify i fun e=>{e with key:=es[i].key,val:=a.eval v}:=by
      apply Array.ext
      .simp
      .intro j h1 h2
       rw[Array.getElem_modify,Array.getElem_modify]
       split
       .rename_i q;subst q;rfl
       .rfl
     have key:=h.mem.setOb (o:= .mp (zw6 kvs i kvs[2*i] (zD e v)) bs clk) hσ hβ rfl hl (.map (es.modify i fun e=>{e with key:=es[i].key,val:=a.eval v}) clk) (ab _) (fun k h=>by simpa[excl]using h.symm) fun hle=>by
      refine⟨b,_,rfl,xK _ _ _ ak,hl,(yX9 aa ag al hi).imp fun _ _=>RdA.mono hle (ab _),by rw[ym4];exact ad⟩
     rw[ao,<-ah]at key
     refine⟨undef,_,L,β,.inr ⟨?_,rfl⟩,key.1,key.2,ab _,tV⟩
     simp[execOp,Instr.entryStore,aj,hs,MapKept.run_getObj_map hh,asInt,asIntOf,af,ae]
    .trivial
   .trivial
  .trivial
 .trivial
def zW0 (b:Nat):List V->List Nat->Option (V×V)
 |k::v::kvs,b'::bs=>if b'=b then some (k,v)else zW0 b kvs bs
 |_,_=>none
def zi4 (σ:St) (x:V):R:=
 match x with
 | .ptr i 0=>(match σ[i]? with
  |some (.it (some id) _ seen last)=>(match σ[id]?,seen.getLast? with
   |some (.mp kvs bs clk),some b=>if clk=last then(match zW0 b kvs bs with|some (k,v)=> .ok (.tup [k,v])|none=> .fail)else .fail
   |_,_=> .fail)
  |_=> .fail)
 |_=> .fail
theorem ent_ok (b:Nat): ∀(kvs:List V) (bs:List Nat) (es:List MapEntry) (k v:V),All2 (RdA w L σ β) kvs (es.flatMap fun e=> [e.key,e.val])->es.map (·.born)=bs->zW0 b kvs bs=some (k,v)->
  ∃e,es.find? (·.born==b)=some e/\RdA w L σ β k e.key/\RdA w L σ β v e.val
 | [],_,_,_,_,_,_,h=>by simp[zW0]at h
 | [_],_,_,_,_,_,_,h=>by simp[zW0]at h
 |_::_::_,_,[],_,_,ha,_,_=>by simp[All2]at ha
 |k0::v0::kvs,bs,e::es,k,v,ha,hb,h=>by
  simp only[Bq,Bu,Ck,All2]at ha
  obtain⟨h1,h2,h3⟩:=ha
  cases bs with
  |nil=>simp at hb
  |cons b' bs=>
   simp only[As,List.cons.injEq]at hb
   obtain⟨rfl,hb⟩:=hb
   rw[zW0]at h
   by_cases q:e.born=b
   .rw[if_pos q]at h
    simp only[Option.some.injEq,Prod.mk.injEq]at h
    obtain⟨rfl,rfl⟩:=h
    exact⟨e,by simp[List.find?_cons,q],h1,h2⟩
   .rw[if_neg q]at h
    obtain⟨e',g1,g2,g3⟩:=ent_ok b kvs bs es k v h3 hb h
    have qb:(e.born==b)=false:=by simpa using q
    exact⟨e',by rw[List.find?_cons,qb];exact g1,g2,g3⟩
theorem xv6 {pos:String} (x:Operand) (h:Sim c nt e σ a w L β):
  ROk (zi4 σ (zD e x)) σ (Yield P c ⟨dst,.entry x,ty,pos,aft,g⟩ a w L σ β):=by
 have hx:=h.eval x
 unfold zi4
 split
 .rename_i i hid
  rw[hid]at hx
  obtain⟨r,hβ,hv⟩:=hx
  split
  .rename_i id since seen last hσ
   obtain⟨r',mo,e1,hh,hl,b,ab,rfl⟩:=h.mem.objs _ _ _ hσ hβ
   cases e1
   split
   .rename_i kvs bs clk b0 ad ae
    obtain⟨b',es,e1,af,aj,aa,ag⟩:=h.mem.objs _ _ _ ad ab
    cases e1
    split
    .rename_i hc
     subst hc
     split
     .rename_i k v he
      obtain⟨en,g1,g2,g3⟩:=ent_ok b0 kvs bs es.toList k v aa ag he
      have ah:es.find? (·.born==b0)=some en:=by
       rw[<-g1]
       obtain⟨l⟩:=es
       simp
      have ai:seen.toArray.back? =some b0:=by
       rw[<-ae]
       simp
      refine Yield.pure h (x:= .tuple #[en.key,en.val]) ?_ ⟨[en.key,en.val],rfl,g2,g3,tV⟩
      simp[execOp,hv,Instr.entry,getObj,Sem.run,hh,af,ai,ah]
     .trivial
    .trivial
   .trivial
  .trivial
 .trivial
def yo6 (P:Program) (t:TypeId):Bool:=match P.underlying t with|some (.slice _)=>true|_=>false
def zW3 (b:Bool) (t:TypeId) (x:V):R:=
 match b,x with
 |true,.lsv id s n lo m=> .ok (.ifc t [.lsv id s n lo m])
 |true,.sl g rows=> .ok (.ifc t [.sl g rows])
 |_,_=> .fail
theorem xT0 {pos:String} (t:TypeId) (x:Operand) (h:Sim c nt e σ a w L β):
  ROk (zW3 (yo6 P t) t (zD e x)) σ (Yield P c ⟨dst,.makeInterface t x,ty,pos,aft,g⟩ a w L σ β):=by
 have hx:=h.eval x
 have hu:yo6 P t=true->(Instr.makeInterface t (a.eval x)).run P w= .ok (.iface t (a.eval x)) w:=fun hb=>by
  unfold yo6 at hb
  split at hb
  .rename_i et hu
   simp[Instr.makeInterface,run_underlying hu]
  .cases hb
 unfold zW3
 split
 .rename_i id s n lo m hb hid
  rw[hid]at hx
  exact Yield.pure h (x:= .iface t (a.eval x)) (by simp[execOp,hu hb]) ⟨a.eval x,rfl,hx,tV⟩
 .rename_i g rows hb hid
  rw[hid]at hx
  exact Yield.pure h (x:= .iface t (a.eval x)) (by simp[execOp,hu hb]) ⟨a.eval x,rfl,hx,tV⟩
 .trivial
end
end Go.Vx
