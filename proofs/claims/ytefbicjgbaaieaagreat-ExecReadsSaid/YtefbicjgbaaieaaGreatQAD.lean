/-
  Operations over trees: maps, and loops over them.
  No condition: a library text; nothing of the program is named.
-/
import Derived.Test.YtefbicjgbaaieaaGreatQAC
import Derived.Maps.RangeRun
set_option maxHeartbeats 8000000
namespace Go.Vx
open Go
section
variable{P:Program}{c:Ctx}{nt:Nat}{e:Env}{σ:St}{a:Act}{w:World}{L:Nat->Nat}{β:List Value}{o:Oper}
variable{dst:Option Tmp}{ty:TypeId}{aft:Array Edge}{g:Option (Nat×Bool)}{t:TypeId}
def zq5:List V->UInt8 |[.int _ n]=>UInt8.ofNat n.toNat|_=>0
def zR2(rows:List (List V)):Prop:=∀r∈rows,∃n,r=[.int .u8 n]
theorem xL(s:List UInt8):zR2 (zM s):=λr hr=>by obtain⟨b,_,rfl⟩:=Ac.1 hr;exact⟨_,rfl⟩
theorem ze3(s:List UInt8):(zM s).map zq5=s:=by
 unfold zM;rw[Br];conv=>rhs;rw[<-List.map_id s]
 apply Bn;intro b _;simp[zq5]
def zD6(ks kd:Option Kd)(x:V):R:=match kd,x with |some (.int k),.int _ n=>if ks.isSome then .ok (.int k (k.wrap n))else .fail|some .str,.str s=>if ks.isSome then .ok (.str s)else .fail|some .bytes,.str s=>if ks=some .str then .ok (.sl .ro (zM s))else .fail|some .str,.sl _ rows=>if ks=some .bytes then .need (zR2 rows) (.str (rows.map zq5))else .fail|_,_=>.fail
theorem xK7{k:IntKind}(h:kdT P t=some (.int k)):P.underlying t=some (.int k):=by unfold kdT at h;split at h<;>(try split at h)<;>simp at h;subst h;assumption
theorem zL2(h:kdT P t=some .str):P.underlying t=some .string:=by unfold kdT at h;split at h<;>(try split at h)<;>simp at h;assumption
theorem zV7(h:kdT P t=some .bytes):∃el,P.underlying t=some (.slice el)/\P.underlying el=some (.int .u8):=by unfold kdT at h;split at h<;>(try split at h)<;>simp at h;exact⟨_,by assumption,by assumption⟩
theorem yJ1(h:(kdT P t).isSome=true):∃d,P.underlying t=some d:=by unfold kdT at h;split at h<;>first|exact⟨_,by assumption⟩|simp at h
theorem xm9{rows:List (List V)}(h:zR2 rows):∃xs:List Int,rows=xs.map (λn=>[V.int .u8 n]):=by induction rows with |nil=>exact⟨[],rfl⟩|cons r rows ih=>obtain⟨n,hn⟩:=h r sm;obtain⟨xs,hx⟩:=ih λq hq=>h q (by simp[hq]);exact⟨n::xs,by simp[hn,hx]⟩
theorem xM0{pos:String}(t t':TypeId)(x:Operand)(h:Sim c nt e σ a w L β):ROk (zD6 (kdT P t) (kdT P t') (zF e x)) σ (Yield P c ⟨dst,.convert t t' x,ty,pos,aft,g⟩ a w L σ β):=by
 have hx:=h.eval x;unfold zD6;split
 .rename_i k k' n hk h1;rw[h1]at hx;split;.rename_i hs;obtain⟨d,hd⟩:=yJ1 hs;exact Yield.pure h (x:=.int k (k.wrap n)) (by simp[execOp,yH hx,convert,run_underlying hd,run_underlying (xK7 hk),Conv.intToInt]) (RdP.int _ _)
  .trivial
 .rename_i s hk h1;rw[h1]at hx;split;.rename_i hs;obtain⟨d,hd⟩:=yJ1 hs;exact Yield.pure h (x:=.string ⟨s.toArray⟩) (by simp[execOp,wW hx,convert,run_underlying hd,run_underlying (zL2 hk)]) (RdP.str _)
  .trivial
 .rename_i s hk h1;rw[h1]at hx;split
  .rename_i hs;obtain⟨el,hu,he⟩:=zV7 hk;have hr:=run_bytes_of_string (P:=P) w t t' el ⟨s.toArray⟩ (zL2 hs) hu he;have hd:=h.mem.drew;obtain⟨h1,h2⟩:=hd.1.alloc (.cells (bytesRow ⟨s.toArray⟩ (grownCap w (ByteArray.mk s.toArray).size 0 el)) el ((bytesRow ⟨s.toArray⟩ (grownCap w (ByteArray.mk s.toArray).size 0 el)).size,(bytesRow ⟨s.toArray⟩ (grownCap w (ByteArray.mk s.toArray).size 0 el)).size+1)) s.length;refine⟨_,_,_,β,.inl (by simp only[execOp,wW hx,Sem.run_bind,hr,Result.andThen_ok,Sem.run_pure];rfl),h1,hd.2.trans h2,Ext.refl _ _,?_⟩;have ab:=grownCap_ge w (ByteArray.mk s.toArray).size 0 el;have hl:(zM s).length=s.length:=by simp[zM]
   have:RdP (w.drew.alloc (.cells (bytesRow ⟨s.toArray⟩ (grownCap w (ByteArray.mk s.toArray).size 0 el)) el ((bytesRow ⟨s.toArray⟩ (grownCap w (ByteArray.mk s.toArray).size 0 el)).size,(bytesRow ⟨s.toArray⟩ (grownCap w (ByteArray.mk s.toArray).size 0 el)).size+1))) (xD L w.drew.heap.size s.length) (.sl .ro (zM s)) (.slice (some ⟨w.drew.heap.size,0,none⟩) (zM s).length (grownCap w (ByteArray.mk s.toArray).size 0 el)):=by refine .of_row (xs:=byteCells ⟨s.toArray⟩) (s:=1) om (zQ0 s) (by rw[hl];simp[xD]) (by rw[hl];rw[zm3]at ab⊢;exact ab) (λ_=>sm) (λq=>by cases q) (yG _ _) (λk v hk=>?_) (zq4 s);have ag:=(A1.1 hk).1;rw[Ab];unfold bytesRow;rw[Do (by simpa[byteCells]using ag)];simpa[byteCells]using hk
   rw[hl,<-zm3 s]at this;rw[zm3 s]at this⊢;exact this
  .trivial
 .rename_i gg rows hk h1;rw[h1]at hx;split
  .rename_i hs;obtain⟨el,hu,he⟩:=zV7 hs;intro hb;obtain⟨xs,rfl⟩:=xm9 hb;have hr:=zw7 hx;have ae:(xs.map λn=>[V.int .u8 n]).map zq5=xs.map λn:Int=>UInt8.ofNat n.toNat:=by rw[Br];rfl
   rw[ae];refine Yield.pure h (x:=.string ⟨(xs.map λn:Int=>UInt8.ofNat n.toNat).toArray⟩) ?_ (RdP.str _);by_cases h0:xs=[]
   .subst h0;obtain⟨base,cap,hv,_,_⟩:=hr.len;have aa:(convert t t' (.slice base 0 cap)).run P w=.ok (.string ByteArray.empty) w:=by cases base with |none=>exact run_convert_bytes_nil w t el hu he 0 cap t' (zL2 hk)|some ad=>obtain⟨b,off,sp⟩:=ad;rw[run_convert_bytes_string w t t' el _ 0 cap hu he (zL2 hk),run_bytesToString w _ 0 cap [] (by simp[loadCells,loadCellsFrom])];rfl
    simp only[Bs,Dc]at hv;simp only[execOp,hv,Sem.run_bind,aa,Result.andThen_ok,Sem.run_pure];rfl
   .obtain⟨s,b,o',cap,hv,ai,af,_,_,_,hc⟩:=hr.flat (by simpa using h0);have ah:s=1:=by obtain⟨n,rest,rfl⟩:=D7 h0;exact(af [.int .u8 n] sm).symm
    subst ah;have aa:=run_convert_bytes_arg (P:=P) w t el hu he b o' xs.length cap xs rfl (λi hi=>by
     obtain⟨y,hy,r⟩:=hc i (.int .u8 (xs.getD i 0)) (by have:=yK (rows:=xs.map λn=>[V.int .u8 n]) i 0 af om;rw[Nat.mul_one,Cg]at this;rw[this];simp[A0 hi]);have:y=.int .u8 (xs.getD i 0):=by cases r;rfl
     rw[<-this];exact hy) t' (zL2 hk);simp only[Ay]at hv;simp only[execOp,hv,Sem.run_bind,aa,Result.andThen_ok,Sem.run_pure];rfl
  .trivial
 .trivial
def zx9(fl:Option (Nat×Nat×Bool))(x:V):R:=match fl,x with |some (off,s,true),.agg cs=>if off+s<=cs.length then .ok (.agg ((cs.drop off).take s))else .fail|some (off,_,false),.agg cs=>(match cs[off]?with|some v=>.ok v|none=>.fail)|_,_=>.fail
theorem xy6{pos:String}(t:TypeId)(x:Operand)(f:Nat)(h:Sim c nt e σ a w L β):ROk (zx9 (fldT P t f) (zF e x)) σ (Yield P c ⟨dst,.field t x f,ty,pos,aft,g⟩ a w L σ β):=by
 have hx:=h.eval x;unfold zx9;split
 .rename_i off s cs hf h1;rw[h1]at hx;split;.rename_i hle;obtain⟨xs,hv,aa⟩:=hx;obtain⟨fs,fd,hu,ab,rfl,hs,hb,h0⟩:=zV2 hf;have hl:=aa.length;refine Yield.pure h (x:=.agg ((xs.drop fd.offset).take s).toArray) ?_ ⟨_,rfl,(aa.drop _).take _⟩;simp[execOp,hv,Instr.field,run_underlying hu,ab,asAgg,part,zl5 hb,za0 hs]
  .trivial
 .rename_i off s cs hf h1;rw[h1]at hx;split;.rename_i v ad;obtain⟨xs,hv,aa⟩:=hx;obtain⟨fs,fd,hu,ab,rfl,hs,hb,h0⟩:=zV2 hf;obtain⟨y,hy,r⟩:=aa.get _ _ ad;refine Yield.pure h (x:=y) ?_ (RdS.of_cell r);simp[execOp,hv,Instr.field,run_underlying hu,ab,asAgg,part,zl5 hb,hy]
  .trivial
 .trivial
def isK(v:V):Bool:=zh9 v||(match v with|.ptr _ _|.elp _ _|.lsv _ _ _ _ _|.lsp _ _ _ _ _|.bsv _ _ _ _|.mp _=>true|_=>false)
theorem wb9{v:V}{x:Value}(r:RdS w L σ β v x)(h:isK v=true):RdK w L σ β v x:=by cases v<;>first|exact r|simp[isK,zh9]at h
def zH5(fn:Fn)(first:Nat)(caps:List V):R:=match fn with |.func f=>if first=0/\caps.all isK=true then .ok (.fn f caps)else .fail|_=>.fail
theorem xM1{pos:String}(fn:Fn)(first caps:Array Operand)(h:Sim c nt e σ a w L β):ROk (zH5 fn first.size (caps.toList.map (zF e))) σ (Yield P c ⟨dst,.makeFunc fn first caps,ty,pos,aft,g⟩ a w L σ β):=by
 unfold zH5;split
 .rename_i f;split
  .rename_i hc;obtain⟨h0,hk⟩:=hc;have hf:first=#[]:=Db h0;subst hf;refine Yield.pure h (x:=.func (.func f) #[] (caps.toList.map a.eval).toArray) (by simp[execOp,Instr.makeFunc];apply Array.ext';simp) ⟨_,rfl,?_⟩;have:∀l:List Operand,(l.map (zF e)).all isK=true->All2 (RdK w L σ β) (l.map (zF e)) (l.map a.eval):=by intro l;induction l with |nil=>intro _;trivial|cons p l ih=>intro hl;simp at hl;exact⟨wb9 (h.eval p) hl.1,ih (by simpa using hl.2)⟩
   exact this _ hk
  .trivial
 .trivial
def zelT(P:Program)(t:TypeId):Option (List V):=match P.underlying t with |some (.slice el)=>zb1 P el|_=>none
def zD8(el:Option (Nat×Nat))(zs:Option (List V))(σ:St)(l m:V):R:=match el,zs,l,m with |some (s,by'),some z,.int .i64 n,.int .i64 k=>.needst (0<=n/\n<=k/\k.toNat*by'<=140737488355328) (.sl (.app σ.length) (List.replicate n.toNat z)) (σ++[.app n.toNat s])|_,_,_,_=>.fail
theorem xx6{z:Array Value}{s N:Nat}(hz:z.size=s)(hs:0<s)(k:Nat)(hk:k<N*s):((Array.range (N*s)).map (z[·%z.size]!))[k]?=some (z.toList[k%s]'(by simp[hz];exact Cy _ hs)):=by
 have hm:k%s<z.size:=by rw[hz];exact Cy _ hs
 have:k<(Array.range (N*s)).size:=by simpa using hk
 rw[Array.getElem?_map,Au this];simp[hz,getElem!_pos z (k%s) hm]
theorem yK1{s ag:Nat}{z:List V}{n k:Int}(av:elT P t=some (s,ag))(hz:zelT P t=some z)(h0:0<=n)(hle:n<=k)(hb:k.toNat*ag<=140737488355328)(w:World)(L:Nat->Nat):∃(el:TypeId)(cells:Array Value),(Instr.makeSlice t (.int .i64 n) (.int .i64 k)).run P w=.ok (.slice (some ⟨w.heap.size,0,none⟩) n.toNat k.toNat) (w.alloc (.cells cells el))/\cells.size=k.toNat*s/\0<s/\uni s (List.replicate n.toNat z)/\All2 (RdP w L) (List.replicate n.toNat z).flatten (cells.toList.take (n.toNat*s)):=by
 obtain⟨el,i,zz,hu,hi,ah,rfl,rfl,ad,hs,aw⟩:=zf0 av;unfold zelT at hz;rw[hu]at hz;obtain⟨i',a7,ai,ab,aj,rfl⟩:=zF9 hz;rw[hi]at ai;cases ai;rw[ah]at ab;cases ab;have hk:k.toNat<=140737488355328:=B3 (Nat.le_mul_of_pos_right _ aw) hb;have ak:IntKind.i64.wrap n=n:=by rw[IntKind.wrap_i64];omega
 have al:IntKind.i64.wrap k=k:=by rw[IntKind.wrap_i64];omega
 have ae:(i.bytes:Int)*k=((k.toNat*i.bytes:Nat):Int):=by rw[Int.natCast_mul,Int.toNat_of_nonneg om,Int.mul_comm]
 have an:¬(281474976710656<(i.bytes:Int)*k):=by rw[ae];omega
 have q1:¬k<0:=om;have q2:¬n<0:=om;have q3:¬k<n:=by omega
 let cells:Array Value:=(Array.range (k.toNat*i.size)).map (zz.cells[·%zz.cells.size]!);have ao:(Instr.makeSlice t (.int .i64 n) (.int .i64 k)).run P w=.ok (.slice (some ⟨w.heap.size,0,none⟩) n.toNat k.toNat) (w.alloc (.cells cells el)):=by
  by_cases af:k.toNat*i.size=0
  .have:∀f:Nat->Value,(Array.range 0).map f=#[]:=λf=>by apply Db;simp
   have ax:cells=#[]:=by simp only[cells,af];exact this _
   rw[ax];simp[Instr.makeSlice,run_underlying hu,asInt,asIntOf,typeInfo,hi,ak,al,an,q1,q2,q3,sizeOf,af,newRow,this]
  .simp[Instr.makeSlice,run_underlying hu,asInt,asIntOf,typeInfo,hi,ak,al,an,q1,q2,q3,sizeOf,af,newRow,zeroValue,ah,cells]
 have ay:zz.cells.toList.length=i.size:=by simp[ad]
 have aa:uni i.size (List.replicate n.toNat (zz.cells.toList.map zc9)):=λr hr=>by rw[(List.mem_replicate.1 hr).2];simp[ad]
 have az:n.toNat<=k.toNat:=om;have hmul:n.toNat*i.size<=k.toNat*i.size:=An _ az;have hlen:(List.replicate n.toNat (zz.cells.toList.map zc9)).length=n.toNat:=sm;have aq:All2 (RdP w L) (List.replicate n.toNat (zz.cells.toList.map zc9)).flatten (cells.toList.take (n.toNat*i.size)):=by
  refine All2.of ?_ λj p x hp hx=>?_;.rw[zW aa,hlen];simp only[cells,Cd,C2,Array.size_map,Array.size_range];omega
  .have ar:j<n.toNat*i.size:=by have:=(A1.1 hp).1;rwa[zW aa,hlen]at this
   have a1:j/i.size<n.toNat:=by rw[Cp hs];exact ar
   have au:j%i.size<i.size:=Cy _ hs;have a6:j=j/i.size*i.size+j%i.size:=by rw[Bz];exact(Dk j i.size).symm
   rw[a6,yK _ _ aa au,Ee,if_pos a1]at hp;simp only[Aw,B0]at hp;rw[Ae,if_pos ar,Ak]at hx;have:=xx6 ad hs j (show j<k.toNat*i.size by omega);simp only[cells]at hx;rw[this]at hx;simp only[Option.some.injEq]at hx;rw[A0 (by rw[ay];exact au)]at hp;simp only[B9,Option.some.injEq]at hp;rw[<-hp,<-hx];exact(zw6 _ (aj _ (A8 _))).1
 exact⟨el,cells,ao,by simp[cells],hs,aa,aq⟩
theorem xM3{pos:String}(t:TypeId)(l m:Operand)(h:Sim c nt e σ a w L β):ROk (zD8 (elT P t) (zelT P t) σ (zF e l) (zF e m)) σ (Yield P c ⟨dst,.makeSlice t l m,ty,pos,aft,g⟩ a w L σ β):=by
 have hl:=h.eval l;have hm:=h.eval m;unfold zD8
 split;.rename_i s aj z n k ah hz e1 e2;rw[e1]at hl;rw[e2]at hm;have e1:=yH hl;have e2:=yH hm;rintro⟨h0,hle,hb⟩;obtain⟨el,cells,ad,ai,hs,ae,af⟩:=yK1 ah hz h0 hle hb w L;have hlen:(List.replicate n.toNat z).length=n.toNat:=sm;obtain⟨aa,ab,ag⟩:=h.mem.appPush (s:=s) (cap:=k.toNat) (arr:=cells) (T:=el) hs ae af (by rw[hlen];omega) (by rw[ai];exact A3 _) (λj x hj=>by
   rw[Ae]at hj;split at hj;.simpa using hj
   .cases hj);rw[hlen]at aa ag ab;refine⟨_,_,_,_,.inl (by simp only[execOp,e1,e2,Sem.run_bind,ad,Result.andThen_ok,Sem.run_pure]),aa,ab,Ext.push _ _ h.mem.len _ _,ag,n.toNat,s,sm,by rw[hlen];exact A3 _,λ_=>?_,ae⟩;rw[<-h.mem.len];simp
 .trivial
def zu2(el:Option (Nat×Nat))(zs:Option (List V))(σ:St)(l m:V):R:=match el,zs,l,m with |some (s,by'),some z,.int .i64 n,.int .i64 k=>.needst (0<=n/\n<=k/\k.toNat*by'<=140737488355328) (.lsv σ.length s n.toNat 0 n.toNat) (σ++[.lst (List.replicate n.toNat z) s])|_,_,_,_=>.fail
theorem zR5{w':World}{L':Nat->Nat}{rows:List (List V)}{s cap:Nat}{a0:Option Addr}(hl:β.length=σ.length)(hcap:rows.length<=cap)(ha:0<cap->∃b,a0=some ⟨b,0,none⟩):RdS w' L' (σ++[.lst rows s]) (β++[.slice a0 rows.length cap]) (.lsv σ.length s rows.length 0 rows.length) (.slice a0 rows.length cap):=by
 refine⟨a0,cap,rfl,⟨hcap,om⟩,λhp=>?_,.inr ⟨rows,sm,A3 _,λ_=>⟨a0,cap,?_,rfl,A2 _,λhp=>?_⟩⟩⟩;.obtain⟨b,rfl⟩:=ha om;exact⟨b,0,rfl⟩
 .rw[<-hl];simp
 .obtain⟨b,rfl⟩:=ha hp;exact⟨b,rfl,by rw[Cf]⟩
theorem xy7{pos:String}(t:TypeId)(l m:Operand)(h:Sim c nt e σ a w L β):ROk (zu2 (elT P t) (zelT P t) σ (zF e l) (zF e m)) σ (Yield P c ⟨dst,.makeSlice t l m,ty,pos,aft,g⟩ a w L σ β):=by
 have hl:=h.eval l;have hm:=h.eval m;unfold zu2;split;.rename_i s ak z n k ah hz e1 e2;rw[e1]at hl;rw[e2]at hm;have e1:=yH hl;have e2:=yH hm;rintro⟨h0,hle,hb⟩;obtain⟨el,cells,ad,ai,hs,aj,ae⟩:=yK1 ah hz h0 hle hb w L;have hlen:(List.replicate n.toNat z).length=n.toNat:=sm;obtain⟨aa,af,ab⟩:=h.mem.lstPush (s:=s) (cap:=k.toNat) (arr:=cells) (T:=el) hs aj (by rw[hlen];exact ae.imp λ_ _=>RdC.of_pure) (by rw[hlen];omega) (by rw[ai];exact A3 _);have ag:=zR5 (w':=w.alloc (.cells cells el)) (L':=L) (s:=s) (rows:=List.replicate n.toNat z) (cap:=k.toNat) (a0:=some ⟨w.heap.size,0,none⟩) h.mem.len (by rw[hlen];omega) (λ_=>⟨_,rfl⟩);rw[hlen]at aa ab ag;exact⟨_,_,_,_,.inl (by simp only[execOp,e1,e2,Sem.run_bind,ad,Result.andThen_ok,Sem.run_pure]),aa,af,ab,ag⟩
 .trivial
theorem xL4(h:Mem c w L σ β){id s p:Nat}{rows r2:List (List V)}{ad:Option Addr}{lo n m cap:Nat}{x:Value}(hσ:σ[id]?=some (.lst rows s))(hx:RdS w L σ β (.lsv id s n lo m) x)(hv:x=.slice ad m cap)(hn:rows.length=n)(ah:uni s r2){news:List Value}(ai:All2 (RdC w L σ β) r2.flatten news)(aj:∀u∈news,u.oneCell'=true)(hp:p=lo)(hk:r2.length<=m)(ay:lo+m<=n)(ar:0<r2.length):∃a0 w',ad=some a0/\(storeCells a0 news 0).run P w=.ok () w'/\Mem c w' L (σ.set id (.lst (rows.take p++r2++rows.drop (p+r2.length)) s)) β/\Le w L w' L/\Ext σ β (σ.set id (.lst (rows.take p++r2++rows.drop (p+r2.length)) s)) β:=by
 subst hp;obtain⟨az,au,e0,a1,_,hc⟩:=hx;rw[hv]at e0;cases e0;rcases hc with hd|⟨rows2,ak,a6,hb⟩;.rw[hσ]at hd;cases hd
 .rw[hσ]at ak;cases ak;obtain⟨b0,c0,hβ,a7,a8,ab⟩:=hb hn.symm;have ao:p<c0:=by clear hb ab;omega
  obtain⟨k0,rfl,rfl⟩:=ab ao;clear hb ab;obtain⟨a2,av,e1,aw,aA,ag,_⟩:=h.objs id _ _ hσ hβ;cases e1;have aa:(rows.take p++r2++rows.drop (p+r2.length)).length=rows.length:=by simp;omega
  have al:p*s<=rows.length*s:=An _ om;obtain⟨arr,T,fz,hh,hf,ax,ae,hle,af⟩:=h.lstPut (off:=p*s) (vs:=r2.flatten) (rows2:=rows.take p++r2++rows.drop (p+r2.length)) hσ hβ om ai al (λr hr=>by
    rcases Aq.1 hr with hr|hr
    .rcases Aq.1 hr with hr|hr;.exact ag r (Bk hr)
     .exact ah r hr
    .exact ag r (D4 hr)) (yk0 ag ah om) (by rw[aa];exact A3 _) (by rw[aa];omega);have an:β.set id (.slice (some ⟨k0,0,none⟩) (rows.take p++r2++rows.drop (p+r2.length)).length c0)=β:=yE _ _ _ (by rw[aa,hn];exact hβ);rw[an]at ae af;have aq:=wD P k0 (p*s) T fz news 0 arr w hh hf om aj;exact⟨_,_,rfl,aq,ae,hle,af⟩
def zu1(sl:Option Nat)(zs:Option (List V))(σ:St)(x:V):R:=match zs,x with |some z,.lsv id s n lo m=>(match σ[id]?with |some (.lst rows s')=>.needst (sl=some s/\s'=s/\rows.length=n/\lo+m<=n) (.tup []) (σ.set id (.lst (rows.take lo++List.replicate m z++rows.drop (lo+m)) s))|_=>.fail)|_,_=>.fail
theorem xy3{pos:String}(t:TypeId)(x:Operand)(h:Sim c nt e σ a w L β):ROk (zu1 ((elT P t).map (·.1)) (zelT P t) σ (zF e x)) σ (Yield P c ⟨dst,.call ⟨.builtin .clear,#[x],#[t]⟩,ty,pos,aft,g⟩ a w L σ β):=by
 have hx:=h.eval x;unfold zu1;split
 .rename_i z id s n lo m hz h1;rw[h1]at hx;split
  .rename_i rows s' hσ;rintro⟨ah,rfl,hn,au⟩;obtain⟨aA,av⟩:∃b,elT P t=some (s',b):=by cases hq:elT P t with |none=>simp[hq]at ah|some q=>obtain⟨q1,q2⟩:=q;simp[hq]at ah;subst ah;exact⟨q2,rfl⟩
   obtain⟨el,i,zz,hu,hi,ak,rfl,rfl,ab,hs,aB⟩:=zf0 av;unfold zelT at hz;rw[hu]at hz;obtain⟨i',aC,al,ae,an,rfl⟩:=zF9 hz;rw[hi]at al;cases al;rw[ak]at ae;cases ae;have aw:=hx;obtain⟨ad,cap,hv,aD,a8,_⟩:=aw;by_cases ax:m=0;.subst ax;have ao:σ.set id (.lst (rows.take lo++List.replicate 0 (zz.cells.toList.map zc9)++rows.drop (lo+0)) i.size)=σ:=yE _ _ _ (by simp[hσ]);rw[ao];refine⟨.tuple #[],w,L,β,.inl ?_,h.mem,Le.refl _ _,Ext.refl _ _,[],rfl,tV⟩;cases ad<;>simp[execOp,resolve,invoke,builtin,Builtin.clear_,run_underlying hu,hv]
   .have aa:All2 (RdC w L σ β) (List.replicate m (zz.cells.toList.map zc9)).flatten (Builtin.zeroCells zz.cells m).toList:=by
     have ai:uni i.size (List.replicate m (zz.cells.toList.map zc9)):=λr hr=>by rw[(List.mem_replicate.1 hr).2];simp[ab]
     refine All2.of ?_ λj p x hp hx=>?_;.rw[zW ai];simp[size_zeroCells,ab]
     .have aq:j<m*i.size:=by have:=(A1.1 hp).1;rw[zW ai]at this;simpa using this
      have ay:j/i.size<m:=by rw[Cp hs];exact aq
      have ar:j%i.size<i.size:=Cy _ hs;have az:j=j/i.size*i.size+j%i.size:=by rw[Bz];exact(Dk j i.size).symm
      rw[az,yK _ _ ai ar,Ee,if_pos ay]at hp;simp only[Aw,B0]at hp;have:=xx6 ab hs j aq;rw[Ak]at hx;unfold Builtin.zeroCells at hx;rw[ab]at hx this;rw[this]at hx;simp only[Option.some.injEq]at hx;rw[A0 (by simpa[ab]using ar)]at hp;simp only[B9,Option.some.injEq]at hp;rw[<-hp,<-hx];exact RdC.of_pure (zw6 _ (an _ (A8 _))).1
    have aj:(List.replicate m (zz.cells.toList.map zc9)).length=m:=sm;obtain⟨a0,w',rfl,a1,af,hle,ag⟩:=xL4 (P:=P) h.mem (p:=lo) hσ hx hv hn (r2:=List.replicate m (zz.cells.toList.map zc9)) (λr hr=>by rw[(List.mem_replicate.1 hr).2];simp[ab]) aa (λu a6=>by
      obtain⟨k,hk⟩:=Ax.1 a6;have a7:k<(List.replicate m (zz.cells.toList.map zc9)).flatten.length:=by rw[aa.length];exact(A1.1 hk).1
      obtain⟨q,hq,rq⟩:=aa.get k _ (A0 a7);rw[hk]at hq;cases hq;exact rq.oneCell) rfl (by rw[aj];exact A3 _) au (by rw[aj];omega);rw[aj]at af ag;obtain⟨m',rfl⟩:∃m',m=m'+1:=⟨m-1,om⟩;refine⟨.tuple #[],w',L,β,.inl ?_,af,hle,ag,[],rfl,tV⟩;simp[execOp,resolve,invoke,builtin,Builtin.clear_,run_underlying hu,hv,zeroValue,typeInfo,hi,ak,a1]
  .trivial
 .trivial
def za3(es:Option Nat)(len:Nat)(σ:St)(parts:List (Nat×V)):R:=match es with |some s=>if zo0 0 parts=true/\parts.length=len then .needst ((∀p∈parts,(xH p.2).length=s)/\len*s<=16777216/\0<s) (.lsv σ.length s len 0 len) (σ++[.lst (parts.map λp=>xH p.2) s])else .fail|none=>.fail
theorem yh9{pos:String}(t:TypeId)(len:Nat)(ps:Array (Nat×Operand))(h:Sim c nt e σ a w L β):ROk (za3 ((elT P t).map (·.1)) len σ (ps.toList.map λp=>(p.1,zF e p.2))) σ (Yield P c ⟨dst,.buildSlice t len ps,ty,pos,aft,g⟩ a w L σ β):=by
 unfold za3;split
 .rename_i s ai;split
  .rename_i aj;obtain⟨ho,hlen⟩:=aj;rintro⟨hp,ay,hs⟩;obtain⟨el,aq⟩:∃b,elT P t=some (s,b):=by cases hq:elT P t with |none=>simp[hq]at ai|some q=>obtain⟨q1,q2⟩:=q;simp[hq]at ai;subst ai;exact⟨q2,rfl⟩
   obtain⟨el,i,z,hu,hi,hz,rfl,_,az,_,_⟩:=zf0 aq;have ab:=All2.of_parts h ps.toList;have ak:∀aa,Instr.fill (λk=>some (k*i.size,i.size)) ((Array.range (len*i.size)).map (z.cells[·%z.cells.size]!)) (ps.map λ(k,x)=>(k,a.eval x)).toList=some aa->(Instr.buildSlice t len (ps.map λ(k,x)=>(k,a.eval x))).run P w=.ok (.slice (some ⟨w.heap.size,0,none⟩) len len) (w.alloc (.cells aa el)):=by
    intro aa hf;by_cases h0:len*i.size=0
    .have ar:len=0:=by
      rcases Nat.mul_eq_zero.1 h0 with h|h;.exact h
      .omega
     subst ar;simp at hlen;subst hlen;simp[Instr.fill]at hf;subst hf;have au:∀f:Nat->Value,(Array.range 0).map f=#[]:=λf=>by apply Db;simp
     simp[Instr.buildSlice,run_underlying hu,sizeOf,typeInfo,hi,Instr.fill,newRow,au]
    .exact run_buildSlice w t el len _ aa i z hu hi hz om h0 hf
   have al:(ps.map λ(k,x)=>(k,a.eval x)).toList=ps.toList.map λp=>(p.1,a.eval p.2):=sm;obtain⟨aa,hf,av,ae⟩:=yf2 (s:=i.size) _ _ 0 ((Array.range (len*i.size)).map (z.cells[·%z.cells.size]!)) [] ho hp ab (by simp at hlen⊢;rw[hlen]) sm (by simp[All2]);rw[<-al]at hf;have hr:=ak aa hf;have ad:((ps.toList.map λp=>(p.1,zF e p.2)).map λp=>xH p.2).length=len:=by rw[Ay,hlen]
   have aw:uni i.size ((ps.toList.map λp=>(p.1,zF e p.2)).map λp=>xH p.2):=λr hr=>by obtain⟨p,ax,rfl⟩:=Ac.1 hr;exact hp p ax
   simp only[Cu]at ae;have af:aa.size=len*i.size:=by rw[av];simp
   obtain⟨ag,an,ah⟩:=h.mem.lstPush (s:=i.size) (cap:=len) (arr:=aa) (T:=el) hs aw (by rw[ad,<-af,Av sm];exact ae) (by rw[ad];exact A3 _) (by rw[af];exact A3 _);have ao:=zR5 (w':=w.alloc (.cells aa el)) (L':=L) (s:=i.size) (rows:=(ps.toList.map λp=>(p.1,zF e p.2)).map λp=>xH p.2) (cap:=len) (a0:=some ⟨w.heap.size,0,none⟩) h.mem.len (by rw[ad];exact A3 _) (λ_=>⟨_,rfl⟩);rw[ad]at ag ah ao;exact⟨_,_,_,_,.inl (by simp[execOp,hr]),ag,an,ah,ao⟩
  .trivial
 .trivial
def zx8(ks kd:Option Kd)(σ:St)(x:V):R:=match kd,x with |some .bytes,.str s=>if ks=some .str then .st (.lsv σ.length 1 s.length 0 s.length) (σ++[.lst (zM s) 1])else .fail|_,_=>.fail
theorem xy4{pos:String}(t t':TypeId)(x:Operand)(h:Sim c nt e σ a w L β):ROk (zx8 (kdT P t) (kdT P t') σ (zF e x)) σ (Yield P c ⟨dst,.convert t t' x,ty,pos,aft,g⟩ a w L σ β):=by
 have hx:=h.eval x;unfold zx8;split
 .rename_i s hk h1;rw[h1]at hx;split
  .rename_i hs;obtain⟨el,hu,he⟩:=zV7 hk;have hr:=run_bytes_of_string (P:=P) w t t' el ⟨s.toArray⟩ (zL2 hs) hu he;have hd:=h.mem.drew;have af:=grownCap_ge w (ByteArray.mk s.toArray).size 0 el;generalize hcap:grownCap w (ByteArray.mk s.toArray).size 0 el=cap at hr af;have aa:s.length<=cap:=by rw[<-zm3 s];exact af
   generalize ab:bytesRow ⟨s.toArray⟩ cap=arr at hr;have aj:arr.size=cap:=by rw[<-ab];simp[bytesRow];rw[zm3];omega
   have hl:(zM s).length=s.length:=by simp[zM]
   have ag:All2 (RdC w.drew L σ β) (zM s).flatten (arr.toList.take ((zM s).length*1)):=by
    have hb:arr.toList.take ((zM s).length*1)=byteCells ⟨s.toArray⟩:=by rw[<-ab];simp[bytesRow,byteCells,zM]
    rw[hb];exact(zq4 s).imp λ_ _=>RdC.of_pure
   obtain⟨ad,ah,ae⟩:=hd.1.lstPushF (s:=1) (cap:=cap) (arr:=arr) (T:=el) (fz:=(arr.size,arr.size+1)) ⟨λo ho q=>by simp only at q;omega,.inl rfl⟩ om (zQ0 s) ag (by rw[hl];exact aa) om;have ai:=zR5 (w':=w.drew.alloc (.cells arr el (arr.size,arr.size+1))) (L':=L) (s:=1) (rows:=zM s) (cap:=cap) (a0:=some ⟨w.drew.heap.size,0,none⟩) h.mem.len (by rw[hl];exact aa) (λ_=>⟨_,rfl⟩);rw[hl]at ad ae ai;refine⟨_,_,_,_,.inl ?_,ad,hd.2.trans ah,ae,ai⟩;simp only[execOp,wW hx,Sem.run_bind,hr,Result.andThen_ok,Sem.run_pure];rw[zm3];rfl
  .trivial
 .trivial
end
theorem Ext.setOther{σ:St}{β:List Value}{i:Nat}{o0:Ob}(hi:σ[i]?=some o0)(h1:∀n s,o0≠.app n s)(h2:∀r s,o0≠.lst r s)(h3:o0≠.dead)(o:Ob):Ext σ β (σ.set i o) β:=by refine⟨λ_ _ e=>e,λid n s e=>⟨n,?_,A3 _,λ_=>rfl⟩,λid rows s e=>.inr ⟨rows,?_,A3 _,λ_=>rfl⟩,λid e=>?_⟩;all_goals
  have:i≠id:=λq=>by subst q;rw[hi]at e;first|exact h1 _ _ (Option.some.inj e)|exact h2 _ _ (Option.some.inj e)|exact h3 (Option.some.inj e)
  rw[Ad this];exact e
section
variable{c:Ctx}{w:World}{L:Nat->Nat}{σ:St}{β:List Value}
theorem Mem.newOb(h:Mem c w L σ β)(ob:Go.Obj)(o:Ob)(ho:Le w L (w.alloc ob) L->Ext σ β (σ++[o]) (β++[.pointer (some ⟨w.heap.size,0,none⟩)])->ObOk (w.alloc ob) L (σ++[o]) (β++[.pointer (some ⟨w.heap.size,0,none⟩)]) o (.pointer (some ⟨w.heap.size,0,none⟩)))(hex:∀b,excl o (.pointer (some ⟨w.heap.size,0,none⟩))=some b->b=w.heap.size):Mem c (w.alloc ob) L (σ++[o]) (β++[.pointer (some ⟨w.heap.size,0,none⟩)])/\Le w L (w.alloc ob) L:=by
 have h1:=h.alloc ob 0;rw[zE9 h]at h1;refine⟨h1.1.push _ _ (ho h1.2 (Ext.push σ β h.len _ _)) ?_ ?_,h1.2⟩;.intro i o' x' b hi hx hb e;have h2:=(h.objs i o' x' hi hx).excl_lt hb;have h3:=hex b e;omega
 .intro b hb;rw[hex b hb];exact .inl h.size
theorem Mem.setOb(h:Mem c w L σ β){i b:Nat}{o0 o:Ob}(hi:σ[i]?=some o0)(hβ:β[i]?=some (.pointer (some ⟨b,0,none⟩)))(ab:excl o0 (.pointer (some ⟨b,0,none⟩))=some b)(h0:L b=0)(ob:Go.Obj)(ad:Ext σ β (σ.set i o) β)(hex:∀k,excl o (.pointer (some ⟨b,0,none⟩))=some k->k=b)(hok:Le w L (yJ w b ob) L->ObOk (yJ w b ob) L (σ.set i o) β o (.pointer (some ⟨b,0,none⟩))):Mem c (yJ w b ob) L (σ.set i o) β/\Le w L (yJ w b ob) L:=by
 have hle:Le w L (yJ w b ob) L:=by refine⟨λ_=>A3 _,λk o ho=>zb7 (zd9 w b k _ λq=>?_) o⟩;subst q;rw[h0]at ho;omega
 refine⟨?_,hle⟩;have aa:=yE β i _ hβ;have key:=h.upd (w':=yJ w b ob) (L':=L) i o (.pointer (some ⟨b,0,none⟩)) hle (by rw[aa];exact ad) (λk=>k=b) (λj o' x' k hj ae af hk e=>by subst e;exact h.apart j i o' _ x' _ k hj ae af hi hβ hk ab) (λk e=>by subst e;exact h.mine i _ _ k hi hβ ab) (λk hk=>⟨zd9 w b k _ hk,rfl⟩) (by simp[yJ]) rfl rfl rfl h.lim (by rw[aa];exact hok hle) (λk hk=>hex k hk);rw[aa]at key;exact key
end
theorem All2.mem_r{α β:Type}{R:α->β->Prop}:∀{l:List α}{m:List β}{b:β},All2 R l m->b∈m->∃a∈l,R a b
 |a::l,b'::m,b,h,hb=>by
  rcases Ag.1 hb with rfl|hb;.exact⟨a,sm,h.1⟩
  .obtain⟨a',ha,r⟩:=All2.mem_r h.2 hb;exact⟨a',by simp[ha],r⟩|[],[],_,_,hb=>by simp at hb|[],_::_,_,h,_=>h.elim|_::_,[],_,h,_=>h.elim
section
variable{P:Program}{c:Ctx}{nt:Nat}{e:Env}{σ:St}{a:Act}{w:World}{L:Nat->Nat}{β:List Value}{o:Oper}
variable{x:Value}{dst:Option Tmp}{ty:TypeId}{aft:Array Edge}{g:Option (Nat×Bool)}{p:V}{kt:TypeId}{t:TypeId}{y:Value}{k:Pk}{kvs:List V}
theorem yt2{v:V}(r:RdS w L σ β v x)(h:wO v=true):RdA w L σ β v x:=by cases v<;>first|exact r|simp[wO]at h
def keyD:TypeDesc->Option Pk |.bool=>some .b|.int k=>some (.i k)|.string=>some .s|_=>none
inductive Kk where|one(k:Pk)|st(ks:List Pk)
def yq9(P:Program):Nat->List Field->Option (List Pk) |_,[]=>some []|i,f::fs=>if f.name≠"_"/\f.offset=i/\aggT P f.type=some false then((P.underlying f.type).bind keyD).bind λk=>(yq9 P (i+1) fs).map (k::·)else none
def kkT(P:Program)(kt:TypeId):Option Kk:=match P.underlying kt with |some (.struct fs)=>(yq9 P 0 fs.toList).bind λks=>if zu0 P 10 kt=some ks then some (.st ks)else none|some d=>(keyD d).map .one|none=>none
def zvT(P:Program)(t:TypeId):Option V:=match(P.info? t).bind (·.zero)with |some (.agg cs)=>if cs.all (·.oneCell')=true then some (.agg (cs.toList.map zc9))else none|some v=>if v.oneCell'=true then some (zc9 v)else none|none=>none
def mapT(P:Program)(t:TypeId):Option (Kk×V):=match P.underlying t with |some (.map kt et)=>(kkT P kt).bind λk=>(zvT P et).map λz=>(k,z)|_=>none
theorem xG5{z:V}(h:zvT P t=some z):∃i zv,P.info? t=some i/\i.zero=some zv/\wO z=true/\∀(w:World) L σ β,RdA w L σ β z zv:=by unfold zvT at h;cases hi:P.info? t with |none=>simp[hi]at h|some i=>cases hz:i.zero with |none=>simp[hi,hz]at h|some zv=>
   simp only[hi,hz,Aw]at h;refine⟨i,zv,rfl,hz,?_⟩;split at h
   .rename_i cs aa;cases aa;split at h;.rename_i ha;simp only[Option.some.injEq]at h;subst h;refine⟨rfl,λw L σ β=>⟨cs.toList,sm,(zX1 λv hv=>?_).imp λ_ _=>RdC.of_pure⟩⟩;exact D5.1 ha v (Array.mem_toList_iff.1 hv)
    .cases h
   .rename_i v ab hv;cases hv;split at h;.rename_i h1;simp only[Option.some.injEq]at h;subst h;have hc:zI1 (zc9 zv)=true:=(zw6 (w:=default) (L:=λ_=>0) zv h1).2;refine⟨?_,λw L σ β=>RdA.of_cell (RdC.of_pure (zw6 zv h1).1)⟩;revert hc;generalize zc9 zv=q0;cases q0<;>simp[zI1,wO]
    .cases h
   .rename_i hv;cases hv
theorem zB6{k:Kk}{z:V}(h:mapT P t=some (k,z)):∃kt et i zv,P.underlying t=some (.map kt et)/\kkT P kt=some k/\P.info? et=some i/\i.zero=some zv/\wO z=true/\∀(w:World) L σ β,RdA w L σ β z zv:=by
 unfold mapT at h;split at h;.rename_i kt et hu;cases hk:kkT P kt with |none=>simp[hk]at h|some k'=>cases hz:zvT P et with |none=>simp[hk,hz]at h|some z'=>simp only[hk,hz,Aw,B9,Option.some.injEq,Prod.mk.injEq]at h;obtain⟨rfl,rfl⟩:=h;obtain⟨i,zv,h1,h2,h3,h4⟩:=xG5 hz;exact⟨kt,et,i,zv,hu,hk,h1,h2,h3,h4⟩
 .cases h
def ze5:Pk->V->Bool |.b,.bool _=>true|.i k,.int k' _=>decide (k'=k)|.s,.str _=>true|_,_=>false
def zb2:List Pk->List V->Bool|[],[]=>true|k::ks,v::vs=>ze5 k v&&zb2 ks vs|_,_=>false
def zo1:Kk->V->Bool|.one k,v=>ze5 k v|.st ks,.agg vs=>zb2 ks vs|_,_=>false
theorem zr6{d:TypeDesc}{v:V}(hk:keyD d=some k)(h:ze5 k v=true)(r:RdS w L σ β v x):MapKept.IsKey d x:=by
 cases k<;>cases v<;>simp[ze5]at h;.rw[zd8 r];cases d<;>simp[keyD]at hk<;>trivial
 .rw[yH r];cases d<;>simp[keyD]at hk;subst hk;exact h
 .rw[wW r];cases d<;>simp[keyD]at hk<;>trivial
theorem yr0(em:Bool)(xs:List Value)(w:World):∀(fs:List Field)(i:Nat)(ks:List Pk)(vs:List V),yq9 P i fs=some ks->zb2 ks vs=true->All2 (RdC w L σ β) vs (xs.drop i)->∀f∈fs,f.name≠"_"/\∃x,(part f.type xs.toArray f.offset).run P w=.ok x w/\(Instr.checkKey em 9999 f.type x).run P w=.ok () w
 |[],_,_,_,_,_,_,_,hf=>by cases hf|f::fs,i,ks,vs,h,hko,ha,f',hf'=>by
  unfold yq9 at h;split at h;.rename_i hc;obtain⟨h1,h2,h3⟩:=hc;cases hu:P.underlying f.type with |none=>simp[hu]at h|some d=>cases hk:keyD d with |none=>simp[hu,hk]at h|some k=>simp only[hu,hk,Aw,Ba]at h;obtain⟨ks',h4,rfl⟩:=h;cases vs with |nil=>simp[zb2]at hko|cons v vs=>
      simp only[zb2,A6]at hko;have hlen:=ha.length;have hlt:i<xs.length:=by simp at hlen;omega
      rw[A5 hlt]at ha;rcases Ag.1 hf' with rfl|hf'
      .have hp:(part f'.type xs.toArray f'.offset).run P w=.ok xs[i] w:=by
        have hlt':i<xs.toArray.size:=by simpa using hlt
        rw[h2];simp only[part,Sem.run_bind,zl5 h3,Result.andThen_ok,Bj,if_false,Au hlt',Sem.run_pure];simp
       exact⟨h1,_,hp,MapKept.run_checkKey (P:=P) (w:=w) hu (zr6 hk hko.1 (RdS.of_cell ha.1)) em 9998⟩
      .exact yr0 em xs w fs (i+1) ks' vs h4 hko.2 ha.2 f' hf'
  .cases h
theorem zB3{kk:Kk}(hk:kkT P kt=some kk)(aa:zo1 kk p=true)(hx:RdS w L σ β p x)(em:Bool):(Instr.checkKey em 10000 kt x).run P w=.ok () w:=by
 unfold kkT at hk;split at hk;.rename_i fs hu;cases hf:yq9 P 0 fs.toList with |none=>simp[hf]at hk|some ks=>
   simp only[hf,Aw]at hk;split at hk;.simp only[Option.some.injEq]at hk;subst hk;cases p<;>simp[zo1]at aa;obtain⟨xs,rfl,ha⟩:=hx;have each:=yr0 (P:=P) em xs w fs.toList 0 ks _ hf aa ha;rw[show(10000:Nat)=9999+1from rfl,Instr.checkKey];simp only[Sem.run_bind,run_underlying hu,Result.andThen_ok];rw[<-Array.forIn_toList];clear hf hu;generalize fs.toList=M at each;induction M with |nil=>simp|cons f M ih=>obtain⟨hn,x,p1,p2⟩:=each f sm;simp only[List.forIn_cons,Sem.run_bind,hn,ne_eq,not_false_eq_true,if_true,Result.andThen_ok,p1,p2,Sem.run_pure];exact ih λy hy=>each y (by simp[hy])
   .cases hk
 .rename_i d ab hu;cases hd:keyD d with |none=>simp[hd]at hk|some k=>simp only[hd,B9,Option.some.injEq]at hk;subst hk;exact MapKept.run_checkKey hu (zr6 hd aa hx) em 9999
 .cases hk
def eqKk:Kk->V->V->Option Bool|.one k,x,y=>eqPk k x y|.st ks,.agg x,.agg y=>eqVs ks x y|_,_,_=>none
def zi8(k:Kk)(x:V):List V->Nat->Option (Option (Nat×V)) |kk::vv::rest,i=>(match eqKk k x kk with |some true=>some (some (i,vv))|some false=>zi8 k x rest (i+1)|none=>none)|[],_=>some none|[_],_=>none
theorem yG9{d:TypeDesc}{v:V}{r:Bool}(hk:keyD d=some k)(hx:RdS w L σ β p x)(hy:RdS w L σ β v y)(h:eqPk k p v=some r):Instr.sameNow d x y=some r:=by
 cases k;.cases p<;>cases v<;>simp[eqPk]at h;subst h;rw[zd8 hx,zd8 hy];cases d<;>simp[keyD]at hk;rfl
 .cases p<;>cases v<;>simp[eqPk]at h;obtain⟨⟨rfl,rfl⟩,rfl⟩:=h;rw[yH hx,yH hy];cases d<;>simp[keyD]at hk;simp[Instr.sameNow]
 .cases p<;>cases v<;>simp[eqPk]at h;subst h;rename_i s1 s2;rw[wW hx,wW hy];cases d<;>simp[keyD]at hk;simp only[Instr.sameNow,Option.some.injEq];have e1:((⟨s1.toArray⟩:ByteArray)==⟨s2.toArray⟩)=(s1.toArray==s2.toArray):=rfl;rw[e1];simp
theorem yf5{k:Kk}{p:V}(M:List MapEntry->Nat->Option (Nat×Value)->Prop)(h0:∀i,M [] i none)(hT:∀v(e:MapEntry) es i,RdA w L σ β v e.key->eqKk k p v=some true->M (e::es) i (some (i,e.val)))(hF:∀v(e:MapEntry) es i r,RdA w L σ β v e.key->eqKk k p v=some false->M es (i+1) r->M (e::es) i r):∀(kvs:List V)(es:List MapEntry)(i:Nat)(q:Option (Nat×V)),All2 (RdA w L σ β) kvs (es.flatMap λe=>[e.key,e.val])->zi8 k p kvs i=some q->(q=none/\M es i none)∨∃(j:Nat)(v:V)(e:MapEntry),q=some (i+j,v)/\M es i (some (i+j,e.val))/\es[j]?=some e/\kvs[2*j+1]?=some v/\RdA w L σ β v e.val/\(∃kk,kvs[2*j]?=some kk/\eqKk k p kk=some true)
 |[],[],i,q,_,h=>by simp[zi8]at h;exact .inl ⟨h.symm,h0 i⟩|[],e::es,_,_,ha,_=>by simp[All2]at ha|[_],[],_,_,ha,_=>by simp[All2]at ha|[_],e::es,_,_,_,h=>by simp[zi8]at h|_::_::_,[],_,_,ha,_=>by simp[All2]at ha|kk::vv::kvs,e::es,i,q,ha,h=>by
  simp only[Bm,Bo,Cu,All2]at ha;obtain⟨h1,h2,h3⟩:=ha;rw[zi8]at h;split at h;.rename_i he;simp only[Option.some.injEq]at h;exact .inr ⟨0,vv,e,h.symm,hT _ _ _ _ h1 he,rfl,rfl,h2,kk,rfl,he⟩
  .rename_i he;rcases yf5 M h0 hT hF kvs es (i+1) q h3 h with⟨e1,e2⟩|⟨j,v,e',e1,e2,e3,e4,e5,aa,e6,e7⟩;.exact .inl ⟨e1,hF _ _ _ _ _ h1 he e2⟩
   .rw[show i+1+j=i+(j+1)by omega]at e1 e2;refine .inr ⟨j+1,v,e',e1,hF _ _ _ _ _ h1 he e2,by simpa using e3,?_,e5,aa,?_,e7⟩;.rw[show 2*(j+1)+1=(2*j+1)+2by omega];simpa using e4
    .rw[show 2*(j+1)=(2*j)+2by omega];simpa using e6
  .cases h
theorem zJ1{fs:Array Field}{es:List MapEntry}{r:Option (Nat×Value)}(hu:P.underlying kt=some (.struct fs))(h:(Instr.findAsking kt x es 0).run P w=.ok r w):(Instr.findKey kt x es).run P w=.ok r w:=by cases es with |nil=>simp[Instr.findAsking]at h;subst h;simp[Instr.findKey,run_underlying hu,Instr.findNow]|cons e es=>
  have:Instr.findNow (.struct fs) x (e::es) 0=none:=by simp[Instr.findNow,Instr.sameNow]
  simp[Instr.findKey,run_underlying hu,this,h]
theorem zr5{kk:Kk}(hk:kkT P kt=some kk)(ag:zo1 kk p=true)(hx:RdS w L σ β p x){es:List MapEntry}{q:Option (Nat×V)}(ha:All2 (RdA w L σ β) kvs (es.flatMap λe=>[e.key,e.val]))(hf:zi8 kk p kvs 0=some q):(q=none/\(Instr.findKey kt x es).run P w=.ok none w)∨∃(j:Nat)(v:V)(e:MapEntry),q=some (j,v)/\(Instr.findKey kt x es).run P w=.ok (some (j,e.val)) w/\es[j]?=some e/\kvs[2*j+1]?=some v/\RdA w L σ β v e.val/\(∃k',kvs[2*j]?=some k'/\eqKk kk p k'=some true):=by
 unfold kkT at hk;split at hk;.rename_i fs hu;cases ad:yq9 P 0 fs.toList with |none=>simp[ad]at hk|some ks=>
   simp only[ad,Aw]at hk;split at hk
   .rename_i ah;simp only[Option.some.injEq]at hk;subst hk;cases p<;>simp[zo1]at ag;rename_i vs;obtain⟨xs,rfl,ae⟩:=hx;have ab:∀(us:List V)(ys:List Value),All2 (RdC w L σ β) us ys->∀z∈ys,z.oneCell'=true:=λus ys h z hz=>by obtain⟨i,hi,rfl⟩:=List.mem_iff_getElem.1 hz;obtain⟨a,_,r⟩:=All2.mem_r h (A8 hi);exact r.oneCell
    have aa:∀ys:Array Value,zv9 P kt (.agg ys):=λys=>by unfold zv9;rw[if_pos (by unfold aggT;rw[hu];rfl)];exact⟨_,rfl⟩
    have heq:∀(v:V)(y:Value)(r:Bool),RdA w L σ β v y->eqKk (.st ks) (.agg vs) v=some r->(Op.equal kt (.agg xs.toArray) y).run P w=.ok r w:=by intro v y r hr he;cases v<;>simp[eqKk]at he;rename_i us;obtain⟨ys,rfl,af⟩:=hr;have ai:=zU9 ks vs us xs ys r ae af he;exact zI9 10 kt ks ah 10000 om _ _ r (aa _) (aa _) (by simpa[Value.cells]using ab _ _ ae) (by simpa[Value.cells]using ab _ _ af) (by simpa[Value.cells]using ai) w
    rcases yf5 (w:=w) (L:=L) (σ:=σ) (β:=β) (k:=.st ks) (p:=.agg vs) (λes i r=>(Instr.findAsking kt (.agg xs.toArray) es i).run P w=.ok r w) (λi=>by simp[Instr.findAsking]) (λv e es i h1 h2=>by simp[Instr.findAsking,heq v _ _ h1 h2]) (λv e es i r h1 h2 h3=>by simp[Instr.findAsking,heq v _ _ h1 h2,h3]) kvs es 0 q ha hf with⟨e1,e2⟩|⟨j,v,e',e1,e2,e3⟩;.exact .inl ⟨e1,zJ1 hu e2⟩
    .rw[Ab]at e1 e2;exact .inr ⟨j,v,e',e1,zJ1 hu e2,e3⟩
   .cases hk
 .rename_i d aj hu;cases hd:keyD d with |none=>simp[hd]at hk|some k=>
   simp only[hd,B9,Option.some.injEq]at hk;subst hk;rcases yf5 (w:=w) (L:=L) (σ:=σ) (β:=β) (k:=.one k) (p:=p) (λes i r=>Instr.findNow d x es i=some r) (λi=>rfl) (λv e es i h1 h2=>by simp[Instr.findNow,yG9 hd hx (RdS.of_a h1) h2]) (λv e es i r h1 h2 h3=>by simp[Instr.findNow,yG9 hd hx (RdS.of_a h1) h2,h3]) kvs es 0 q ha hf with⟨e1,e2⟩|⟨j,v,e',e1,e2,e3⟩;.exact .inl ⟨e1,MapKept.run_findKey hu e2⟩
   .rw[Ab]at e1 e2;exact .inr ⟨j,v,e',e1,MapKept.run_findKey hu e2,e3⟩
 .cases hk
theorem yq2{v:V}(hx:RdS w L σ β p x)(hy:RdS w L σ β v y)(h:eqPk k p v=some true):x=y:=by
 cases k<;>cases p<;>cases v<;>simp[eqPk]at h;.rw[zd8 hx,zd8 hy,h]
 .obtain⟨⟨rfl,rfl⟩,rfl⟩:=h;rw[yH hx,yH hy]
 .rw[wW hx,wW hy,h]
theorem yq3:∀(ks:List Pk)(us vs:List V)(xs ys:List Value),All2 (RdC w L σ β) us xs->All2 (RdC w L σ β) vs ys->eqVs ks us vs=some true->xs=ys
 |[],[],[],[],[],_,_,_=>rfl|k::ks,u'::us,v::vs,x::xs,y::ys,h1,h2,h=>by unfold eqVs at h;cases hk:eqPk k u' v with |none=>simp[hk]at h|some r0=>simp only[hk,Aw,Ba]at h;obtain⟨r',h3,h4⟩:=h;simp only[A6]at h4;obtain⟨rfl,rfl⟩:=h4;rw[yq2 (RdS.of_cell h1.1) (RdS.of_cell h2.1) hk,yq3 ks us vs xs ys h1.2 h2.2 h3]
 |[],[],[],[],_::_,_,h2,_=>h2.elim|[],[],[],_::_,_,h1,_,_=>h1.elim|[],[],_::_,_,_,_,_,h=>by cases h|[],_::_,_,_,_,_,_,h=>by cases h|_::_,[],_,_,_,_,_,h=>by cases h|_::_,_::_,[],_,_,_,_,h=>by cases h|_::_,_::_,_::_,[],_,h1,_,_=>h1.elim|_::_,_::_,_::_,_::_,[],_,h2,_=>h2.elim
theorem yq1{k:Kk}{v:V}(hx:RdS w L σ β p x)(hy:RdS w L σ β v y)(h:eqKk k p v=some true):x=y:=by cases k with |one k=>exact yq2 hx hy h|st ks=>cases p<;>cases v<;>simp[eqKk]at h;obtain⟨xs,rfl,h1⟩:=hx;obtain⟨ys,rfl,h2⟩:=hy;rw[yq3 ks _ _ _ _ h1 h2 h]
theorem xi7{ks:List Pk}:∀{vs:List V}{xs:List Value},zb2 ks vs=true->All2 (RdC w L σ β) vs xs->∀z∈xs,∃d,MapKept.IsKey d z:=by induction ks with
 |nil=>intro vs xs h ha;cases vs with
  |nil=>cases xs with |nil=>intro z hz;cases hz|cons _ _=>exact ha.elim
  |cons _ _=>simp[zb2]at h
 |cons k ks ih=>intro vs xs h ha z hz;cases vs with |nil=>simp[zb2]at h|cons v vs=>cases xs with |nil=>exact ha.elim|cons x xs=>
    simp only[zb2,A6]at h;rcases Ag.1 hz with rfl|hz
    .have hr:=RdS.of_cell (σ:=σ) (β:=β) ha.1;cases k;.exact⟨.bool,zr6 rfl h.1 hr⟩
     .exact⟨.int _,zr6 rfl h.1 hr⟩
     .exact⟨.string,zr6 rfl h.1 hr⟩
    .exact ih h.2 ha.2 z hz
theorem ys1{kk:Kk}(aa:zo1 kk p=true)(hx:RdS w L σ β p x):(Instr.keyThatStays x x).run P w=.ok x w:=by cases kk with
 |one k=>
  cases k;.exact MapKept.run_keyThatStays (zr6 (d:=.bool) rfl aa hx)
  .exact MapKept.run_keyThatStays (zr6 (d:=.int _) rfl aa hx)
  .exact MapKept.run_keyThatStays (zr6 (d:=.string) rfl aa hx)|st ks=>
  cases p<;>simp[zo1]at aa;obtain⟨xs,rfl,ha⟩:=hx;have hs:Instr.sameBits 10000 (.agg xs.toArray) (.agg xs.toArray)=true:=by show Instr.sameBits (9999+1) (.agg xs.toArray) (.agg xs.toArray)=true;simp only[Instr.sameBits,beq_self_eq_true,Ar,Af];rintro⟨a,b⟩ hp;obtain⟨i,hi,e⟩:=List.mem_iff_getElem.1 hp;simp only[List.getElem_zip,Prod.mk.injEq]at e;obtain⟨rfl,rfl⟩:=e;simp only[List.length_zip]at hi;obtain⟨d,hd⟩:=xi7 aa ha xs[i] (A8 (by simpa using hi));simpa using MapKept.sameBits_self hd 9999
  simp[Instr.keyThatStays,hs]
def zn1(σ:St)(m:Bool)(r:Option V):R:=match m,r with |_,none=>.st (.mp σ.length) (σ++[.mp [] [] 0])|true,some (.int _ _)=>.st (.mp σ.length) (σ++[.mp [] [] 0])|_,_=>.fail
def zi9(P:Program)(t:TypeId):Bool:=match P.underlying t with|some (.map _ _)=>true|_=>false
theorem xL6(h:Mem c w L σ β):Mem c (w.alloc (.map #[] 0)) L (σ++[.mp [] [] 0]) (β++[.pointer (some ⟨w.heap.size,0,none⟩)])/\Le w L (w.alloc (.map #[] 0)) L:=h.newOb _ _ (λhle _=>⟨w.heap.size,#[],rfl,yG _ _,by have:=h.lim _ (A3 _);exact this,by simp[zw2,All2],rfl⟩) λb hb=>by simp[excl]at hb;exact hb.symm
theorem yU1{pos:String}(t:TypeId)(r:Option Operand)(h:Sim c nt e σ a w L β):ROk (zn1 σ (zi9 P t) (r.map (zF e))) σ (Yield P c ⟨dst,.makeMap t r,ty,pos,aft,g⟩ a w L σ β):=by have aa:=xL6 h.mem;have ab:RdS (w.alloc (.map #[] 0)) L (σ++[.mp [] [] 0]) (β++[.pointer (some ⟨w.heap.size,0,none⟩)]) (.mp σ.length) (.map (some w.heap.size)):=⟨w.heap.size,by rw[<-h.mem.len];simp,rfl⟩;cases r with |none=>exact⟨_,_,L,_,.inl (by simp[execOp,Instr.makeMap]),aa.1,aa.2,Ext.push σ β h.mem.len _ _,ab⟩|some p=>
  have hp:=h.eval p;simp only[B9];unfold zn1;split;.rename_i hq;cases hq
  .rename_i k n hm hq;simp only[Option.some.injEq]at hq;rw[hq]at hp;have hp:=yH hp;unfold zi9 at hm;split at hm;.rename_i kt et hu;exact⟨_,_,L,_,.inl (by simp[execOp,Instr.makeMap,run_underlying hu,hp,asInt,asIntOf]),aa.1,aa.2,Ext.push σ β h.mem.len _ _,ab⟩
   .cases hm
  .trivial
def xY(m:Option (Kk×V))(σ:St)(x k:V)(ok:Bool):R:=match m with |some (kd,z)=>if zo1 kd k=true then(match x with |.mp id=>(match σ[id]?with
   |some (.mp kvs _ _)=>(match zi8 kd k kvs 0with |some (some (_,v))=>.ok (if ok then .tup [v,.bool true]else v)|some none=>.ok (if ok then .tup [z,.bool false]else z)|none=>.fail)|_=>.fail)|.raw (.map none)=>.ok (if ok then .tup [z,.bool false]else z)|_=>.fail)else .fail|none=>.fail
theorem zP1{id:Nat}(r:RdS w L σ β (.mp id) x):∃b,β[id]?=some (.pointer (some ⟨b,0,none⟩))/\x=.map (some b):=r
theorem zF0(r:RdS w L σ β (.raw (.map none)) x):x=.map none:=by have r':RdP w L (.raw (.map none)) x:=r;cases r';rfl
theorem yi6{v:V}(b:Bool)(r:RdA w L σ β v x)(ok:Bool):RdS w L σ β (if ok then .tup [v,.bool b]else v) (if ok then .tuple #[x,.bool b]else x):=by
 cases ok;.exact RdS.of_a r
 .exact⟨[x,.bool b],rfl,r,RdA.of_cell (RdC.of_pure (.bool b)),tV⟩
theorem xl2{pos:String}(t:TypeId)(x k:Operand)(ok:Bool)(h:Sim c nt e σ a w L β):ROk (xY (mapT P t) σ (zF e x) (zF e k) ok) σ (Yield P c ⟨dst,.lookup t x k ok,ty,pos,aft,g⟩ a w L σ β):=by
 have hx:=h.eval x;have hk:=h.eval k;unfold xY;split
 .rename_i kd z hm;obtain⟨kt,et,i,zv,hu,ad,hi,hz,ai,ag⟩:=zB6 hm;split
  .rename_i ae;have af:∀em,(Instr.checkKey em 10000 kt (a.eval k)).run P w=.ok () w:=λem=>zB3 ad ae hk em;have ah:(zeroValue et).run P w=.ok zv w:=by simp[zeroValue,typeInfo,hi,hz]
   split
   .rename_i id hid;rw[hid]at hx;obtain⟨b,hβ,hv⟩:=zP1 hx;split
    .rename_i kvs bs clk hσ;obtain⟨b',es,e1,hh,hl,ab,aj⟩:=h.mem.objs _ _ _ hσ hβ;cases e1;have ab:All2 (RdA w L σ β) kvs (es.toList.flatMap λe=>[e.key,e.val]):=ab;split
     .rename_i i0 v hf;rcases zr5 ad ae hk ab hf with⟨e1,_⟩|⟨j,v',e',e1,e2,_,_,e5,_⟩;.cases e1
      .cases e1;refine Yield.pure h (x:=if ok then .tuple #[e'.val,.bool true]else e'.val) ?_ (yi6 true e5 ok);have aa:=e2;simp[execOp,Instr.lookup,run_underlying hu,hv,MapKept.run_getObj_map hh,af,aa]
     .rename_i hf;rcases zr5 ad ae hk ab hf with⟨_,e2⟩|⟨j,v',e',e1,_⟩;.refine Yield.pure h (x:=if ok then .tuple #[zv,.bool false]else zv) ?_ (yi6 false (ag _ _ _ _) ok);have aa:=e2;simp[execOp,Instr.lookup,run_underlying hu,hv,MapKept.run_getObj_map hh,af,aa,ah]
      .cases e1
     .trivial
    .trivial
   .rename_i hid;rw[hid]at hx;have hv:=zF0 hx;refine Yield.pure h (x:=if ok then .tuple #[zv,.bool false]else zv) ?_ (yi6 false (ag _ _ _ _) ok);have aa:(Instr.findKey kt (a.eval k) []).run P w=.ok none w:=by
     rcases zr5 (es:=[]) ad ae hk (show All2 (RdA w L σ β) [] _ from trivial) rfl with⟨_,e2⟩|⟨j,v',e',e1,_⟩;.exact e2
     .cases e1
    simp[execOp,Instr.lookup,run_underlying hu,hv,af,aa,ah]
   .trivial
  .trivial
 .trivial
def zw9(kvs:List V)(i:Nat)(k v:V):List V:=(kvs.set (2*i) k).set (2*i+1) v
theorem zv8(l:List MapEntry):∀(i:Nat),(l.flatMap λe=>[e.key,e.val])[2*i]?=(l[i]?).map (·.key)/\(l.flatMap λe=>[e.key,e.val])[2*i+1]?=(l[i]?).map (·.val):=by induction l with |nil=>intro i;simp|cons e l ih=>intro i;cases i with |zero=>simp|succ i=>obtain⟨h1,h2⟩:=ih i;rw[Bm,show 2*(i+1)=2*i+1+1by omega];simp[h1,h2]
theorem yf8(l:List MapEntry):(l.flatMap λe=>[e.key,e.val]).length=2*l.length:=by induction l with |nil=>rfl|cons e l ih=>rw[Bm];simp[ih];omega
theorem xb3{es:Array MapEntry}{i:Nat}{k v:V}(h:All2 (RdA w L σ β) kvs (zw2 es))(hk:RdA w L σ β k x)(hv:RdA w L σ β v y)(hi:i<es.size):All2 (RdA w L σ β) (zw9 kvs i k v) (zw2 (es.modify i λe=>{e with key:=x,val:=y})):=by
 have hl:=h.length;unfold zw2 at h hl⊢;rw[yf8]at hl;simp only[C2]at hl;refine All2.of ?_ λj p q hp hq=>?_;.unfold zw9;rw[yf8];simp[hl]
 .unfold zw9 at hp;obtain⟨m,hm⟩:∃m,j=2*m∨j=2*m+1:=⟨j/2,om⟩;rcases hm with rfl|rfl
  .rw[(zv8 _ m).1]at hq;rw[Ad om]at hp;rw[Ak,Dz]at hq;by_cases e1:i=m;.subst e1;rw[if_pos rfl]at hq;rw[Aj om]at hp;cases hp;rw[Au hi]at hq;simp at hq;subst hq;exact hk
   .rw[if_neg e1]at hq;rw[Ad om]at hp;obtain⟨y',aa,r⟩:=h.get _ _ hp;rw[(zv8 _ m).1,Ak]at aa;rw[hq]at aa;cases aa;exact r
  .rw[(zv8 _ m).2]at hq;rw[Ak,Dz]at hq;by_cases e1:i=m;.subst e1;rw[if_pos rfl]at hq;rw[Aj (by simp;omega)]at hp;cases hp;rw[Au hi]at hq;simp at hq;subst hq;exact hv
   .rw[if_neg e1]at hq;rw[Ad om,Ad om]at hp;obtain⟨y',aa,r⟩:=h.get _ _ hp;rw[(zv8 _ m).2,Ak]at aa;rw[hq]at aa;cases aa;exact r
theorem yp4(es:Array MapEntry)(i:Nat)(x y:Value):(es.modify i λe=>{e with key:=x,val:=y}).toList.map (·.born)=es.toList.map (·.born):=by
 apply Bx;intro j;simp only[B0,Ak,Dz];by_cases aa:i=j;.subst aa;cases he:es[i]?with |none=>simp|some e=>simp
 .simp[aa]
def xS(m:Option (Kk×V))(σ:St)(x k v:V):R:=match m,x with |some (kd,_),.mp id=>if zo1 kd k=true/\wO v=true then(match σ[id]?with |some (.mp kvs bs clk)=>(match zi8 kd k kvs 0with |some (some (i,_))=>.st .u (σ.set id (.mp (zw9 kvs i k v) bs clk))|some none=>.st .u (σ.set id (.mp (kvs++[k,v]) (bs++[clk]) (clk+1)))|none=>.fail)|_=>.fail)else .fail|_,_=>.fail
theorem yg2{k:Kk}{v:V}(h:zo1 k v=true):wO v=true:=by cases k with
 |one k=>cases k<;>cases v<;>first|rfl|simp[zo1,ze5]at h
 |st ks=>cases v<;>first|rfl|simp[zo1]at h
theorem xc3{k v:Value}{et:TypeId}{kd:Kk}{bs:List Nat}{clk id:Nat}{kv vv:V}(hm:Mem c w L σ β)(hu:P.underlying t=some (.map kt et))(ag:kkT P kt=some kd)(hx:RdS w L σ β (.mp id) x)(ae:zo1 kd kv=true)(hk:RdS w L σ β kv k)(hv:RdA w L σ β vv v)(hσ:σ[id]?=some (.mp kvs bs clk)){q:Option (Nat×V)}(hf:zi8 kd kv kvs 0=some q):∃w',(Instr.mapUpdate t x k v).run P w=.ok () w'/\Le w L w' L/\(match q with |some (i,_)=>Mem c w' L (σ.set id (.mp (zw9 kvs i kv vv) bs clk)) β/\Ext σ β (σ.set id (.mp (zw9 kvs i kv vv) bs clk)) β|none=>Mem c w' L (σ.set id (.mp (kvs++[kv,vv]) (bs++[clk]) (clk+1))) β/\Ext σ β (σ.set id (.mp (kvs++[kv,vv]) (bs++[clk]) (clk+1))) β):=by
 have ah:RdA w L σ β kv k:=yt2 hk (yg2 ae);have ai:∀em,(Instr.checkKey em 10000 kt k).run P w=.ok () w:=λem=>zB3 ag ae hk em;obtain⟨b,hβ,rfl⟩:=zP1 hx;obtain⟨b',es,e1,hh,hl,ab,aj⟩:=hm.objs _ _ _ hσ hβ;cases e1;have ak:b<w.heap.size:=(Ao.1 hh).1;have aa:∀o,Ext σ β (σ.set id o) β:=λo=>Ext.setOther hσ (λ_ _ q=>by cases q) (λ_ _ q=>by cases q) (λq=>by cases q) o;have af:∀ob:Go.Obj,(setObj b ob).run P w=.ok () (yJ w b ob):=λob=>by rw[MapKept.run_setObj_map ob hh];rfl
 rcases zr5 ag ae hk ab hf with⟨rfl,e2⟩|⟨j,v',e',rfl,e2,e3,_,_,kk,e6,e7⟩
 .have ad:=e2;refine⟨yJ w b (.map (es.push {key:=k,val:=v,born:=clk}) (clk+1)),?_,?_⟩;.simp[Instr.mapUpdate,run_underlying hu,MapKept.run_getObj_map hh,ai,ad,af]
  .have key:=hm.setOb (o:=.mp (kvs++[kv,vv]) (bs++[clk]) (clk+1)) hσ hβ rfl hl (.map (es.push {key:=k,val:=v,born:=clk}) (clk+1)) (aa _) (λk h=>by simpa[excl]using h.symm) λhle=>by
    refine⟨b,_,rfl,xV _ _ _ ak,hl,?_,by simp[aj]⟩;have:All2 (RdA w L σ β) (kvs++[kv,vv]) (zw2 (es.push {key:=k,val:=v,born:=clk})):=by simp only[zw2,Array.toList_push,Ed];exact All2.append ab ⟨ah,hv,tV⟩
    exact this.imp λ_ _=>RdA.mono hle (aa _)
   exact⟨key.2,key.1,aa _⟩
 .have ad:=e2;have hj:es[j]?=some e':=by simpa using e3
  have al:j<es.size:=(Ao.1 hj).1;have an:e'.key=k:=by obtain⟨y,hy,r⟩:=ab.get _ _ e6;unfold zw2 at hy;rw[(zv8 _ j).1,e3]at hy;simp at hy;subst hy;exact(yq1 hk (RdS.of_a r) e7).symm
  refine⟨yJ w b (.map (es.modify j λe=>{e with key:=k,val:=v}) clk),?_,?_⟩;.simp[Instr.mapUpdate,run_underlying hu,MapKept.run_getObj_map hh,ai,ad,af,hj,an,ys1 ae hk]
  .have key:=hm.setOb (o:=.mp (zw9 kvs j kv vv) bs clk) hσ hβ rfl hl (.map (es.modify j λe=>{e with key:=k,val:=v}) clk) (aa _) (λk h=>by simpa[excl]using h.symm) λhle=>by refine⟨b,_,rfl,xV _ _ _ ak,hl,(xb3 ab ah hv al).imp λ_ _=>RdA.mono hle (aa _),by rw[yp4];exact aj⟩
   simp only[Ab];exact⟨key.2,key.1,aa _⟩
theorem zN0{o:Oper}(t:TypeId)(x k v:Operand)(h:Sim c nt e σ a w L β)(ho:execOp a.eval o=(do Instr.mapUpdate t (a.eval x) (a.eval k) (a.eval v);pure .skip)):ROk (xS (mapT P t) σ (zF e x) (zF e k) (zF e v)) σ (Yield P c o a w L σ β):=by
 have hx:=h.eval x;have hk:=h.eval k;have hv:=h.eval v;unfold xS;split
 .rename_i kd z id hm hid;obtain⟨kt,et,i,zv,hu,ae,_⟩:=zB6 hm;rw[hid]at hx;split
  .rename_i hc;split
   .rename_i kvs bs clk hσ;split;.rename_i i0 v0 hf;obtain⟨w',aa,hle,ad,ab⟩:=xc3 h.mem hu ae hx hc.1 hk (yt2 hv hc.2) hσ hf;exact⟨undef,w',L,β,.inr ⟨by simp[ho,aa],rfl⟩,ad,hle,ab,tV⟩
    .rename_i hf;obtain⟨w',aa,hle,ad,ab⟩:=xc3 h.mem hu ae hx hc.1 hk (yt2 hv hc.2) hσ hf;exact⟨undef,w',L,β,.inr ⟨by simp[ho,aa],rfl⟩,ad,hle,ab,tV⟩
    .trivial
   .trivial
  .trivial
 .trivial
theorem yz9{pos:String}(t:TypeId)(x k v:Operand)(h:Sim c nt e σ a w L β):ROk (xS (mapT P t) σ (zF e x) (zF e k) (zF e v)) σ (Yield P c ⟨dst,.mapUpdate t x k v,ty,pos,aft,g⟩ a w L σ β):=zN0 t x k v h rfl
theorem xl0{pos:String}(t:TypeId)(x k v:Operand)(h:Sim c nt e σ a w L β):ROk (xS (mapT P t) σ (zF e x) (zF e k) (zF e v)) σ (Yield P c ⟨dst,.insert t x k v,ty,pos,aft,g⟩ a w L σ β):=zN0 t x k v h rfl
theorem zM4{α β:Type}(f:α->β):∀(l:List α)(i:Nat),(l.eraseIdx i).map f=(l.map f).eraseIdx i|[],_=>rfl|_::_,0=>rfl|x::l,i+1=>by simp[zM4 f l i]
def zQ2(kvs:List V)(i:Nat):List V:=kvs.take (2*i)++kvs.drop (2*i+2)
def zr0(m:Option (Kk×V))(σ:St)(x k:V):R:=match m,x with |some (kd,_),.mp id=>if zo1 kd k=true then(match σ[id]?with |some (.mp kvs bs clk)=>(match zi8 kd k kvs 0with |some (some (i,_))=>.st (.tup []) (σ.set id (.mp (zQ2 kvs i) (bs.eraseIdx i) clk))|some none=>.st (.tup []) (σ.set id (.mp kvs bs clk))|none=>.fail)|_=>.fail)else .fail|some (kd,_),.raw (.map none)=>if zo1 kd k=true then .ok (.tup [])else .fail|_,_=>.fail
theorem yS1(l:List MapEntry):∀(i:Nat),i<l.length->(l.eraseIdx i).flatMap (λe=>[e.key,e.val])=(l.flatMap λe=>[e.key,e.val]).take (2*i)++(l.flatMap λe=>[e.key,e.val]).drop (2*i+2):=by induction l with |nil=>intro i h;simp at h|cons e l ih=>intro i h;cases i with |zero=>simp|succ i=>rw[List.eraseIdx_cons_succ,Bm,Bm,ih i (by simpa using h)];rw[show 2*(i+1)=2*i+1+1by omega];simp
theorem xk9{pos:String}(t t':TypeId)(x k:Operand)(h:Sim c nt e σ a w L β):ROk (zr0 (mapT P t) σ (zF e x) (zF e k)) σ (Yield P c ⟨dst,.call ⟨.builtin .delete,#[x,k],#[t,t']⟩,ty,pos,aft,g⟩ a w L σ β):=by
 have hx:=h.eval x;have hk:=h.eval k;unfold zr0;split
 .rename_i kd z id hm hid;obtain⟨kt,et,i,zv,hu,ae,_⟩:=zB6 hm;rw[hid]at hx;split
  .rename_i af;have ah:∀em,(Instr.checkKey em 10000 kt (a.eval k)).run P w=.ok () w:=λem=>zB3 ae af hk em;obtain⟨b,hβ,hv⟩:=zP1 hx;split
   .rename_i kvs bs clk hσ;obtain⟨b',es,e1,hh,hl,ab,aj⟩:=h.mem.objs _ _ _ hσ hβ;cases e1;have ak:b<w.heap.size:=(Ao.1 hh).1;have aa:∀o,Ext σ β (σ.set id o) β:=λo=>Ext.setOther hσ (λ_ _ q=>by cases q) (λ_ _ q=>by cases q) (λq=>by cases q) o;have ai:∀ob:Go.Obj,(setObj b ob).run P w=.ok () (yJ w b ob):=λob=>by rw[MapKept.run_setObj_map ob hh];rfl
    split
    .rename_i i0 v0 hf;rcases zr5 ae af hk ab hf with⟨e1,_⟩|⟨j,v',e',e1,e2,e3,_,_,kk,e6,e7⟩;.cases e1
     .cases e1;have ag:=e2;have al:i0<es.toList.length:=(A1.1 e3).1;have an:i0<es.size:=by simpa using al
      have ad:(es.eraseIdxIfInBounds i0).toList=es.toList.eraseIdx i0:=by unfold Array.eraseIdxIfInBounds;rw[dif_pos an];simp
      have key:=h.mem.setOb (o:=.mp (zQ2 kvs i0) (bs.eraseIdx i0) clk) hσ hβ rfl hl (.map (es.eraseIdxIfInBounds i0) clk) (aa _) (λk h=>by simpa[excl]using h.symm) λhle=>by
       refine⟨b,_,rfl,xV _ _ _ ak,hl,?_,by rw[ad,<-aj,zM4]⟩;have:All2 (RdA w L σ β) (zQ2 kvs i0) (zw2 (es.eraseIdxIfInBounds i0)):=by unfold zw2 zQ2;rw[ad,yS1 _ _ al];exact(All2.take _ ab).append (All2.drop _ ab)
       exact this.imp λ_ _=>RdA.mono hle (aa _)
      refine⟨.tuple #[],_,L,β,.inl ?_,key.1,key.2,aa _,[],rfl,tV⟩;simp[execOp,resolve,invoke,builtin,Builtin.delete_,run_underlying hu,hv,MapKept.run_getObj_map hh,ah,ag,ai]
    .rename_i hf;rcases zr5 ae af hk ab hf with⟨_,e2⟩|⟨j,v',e',e1,_⟩
     .have ag:=e2;have key:=h.mem.setOb (o:=.mp kvs bs clk) hσ hβ rfl hl (.map es clk) (aa _) (λk h=>by simpa[excl]using h.symm) λhle=>by exact⟨b,_,rfl,xV _ _ _ ak,hl,ab.imp λ_ _=>RdA.mono hle (aa _),aj⟩
      refine⟨.tuple #[],_,L,β,.inl ?_,key.1,key.2,aa _,[],rfl,tV⟩;simp[execOp,resolve,invoke,builtin,Builtin.delete_,run_underlying hu,hv,MapKept.run_getObj_map hh,ah,ag,ai]
     .cases e1
    .trivial
   .trivial
  .trivial
 .rename_i kd z hm hid;obtain⟨kt,et,i,zv,hu,ae,_⟩:=zB6 hm;rw[hid]at hx;have hv:=zF0 hx;split;.rename_i af;have ah:∀em,(Instr.checkKey em 10000 kt (a.eval k)).run P w=.ok () w:=λem=>zB3 ae af hk em;refine Yield.pure h (x:=.tuple #[]) ?_ ⟨[],rfl,tV⟩;simp[execOp,resolve,invoke,builtin,Builtin.delete_,run_underlying hu,hv,ah]
  .trivial
 .trivial
theorem zq6{et:TypeId}(hb:P.underlying t=some (.map kt et))(m:Option Nat)(w:World):(Op.equal t (.map m) (.map none)).run P w=.ok m.isNone w:=by
 have key:∀d,(Op.equalIn (d+1) t (.map m) (.map none)).run P w=.ok m.isNone w:=λd=>by cases m<;>simp[Op.equalIn,run_underlying hb]
 exact key 9999
def zg7:Operand->Bool |.const (.map none)=>true|_=>false
def zr1(op:BinOp)(m:Bool)(x:V):R:=match m,x with |true,.mp _=>(match op with|.eql=>.ok (.bool false)|.neq=>.ok (.bool true)|_=>.fail)|true,.raw (.map none)=>(match op with|.eql=>.ok (.bool true)|.neq=>.ok (.bool false)|_=>.fail)|_,_=>.fail
theorem xl3{pos:String}(op:BinOp)(t t':TypeId)(x y:Operand)(hy:zg7 y=true)(h:Sim c nt e σ a w L β):ROk (zr1 op (zi9 P t) (zF e x)) σ (Yield P c ⟨dst,.binOp op t x y t',ty,pos,aft,g⟩ a w L σ β):=by
 have hx:=h.eval x;have aa:a.eval y=.map none:=by
  unfold zg7 at hy;split at hy;.rfl
  .cases hy
 unfold zr1;split
 .rename_i id hm hid;unfold zi9 at hm;split at hm
  .rename_i kt et hu;rw[hid]at hx;obtain⟨b,hβ,hv⟩:=zP1 hx;split;.refine Yield.pure h (x:=.bool false) ?_ (RdP.bool _);simp[execOp,eqGuard,binOp,zq6 hu,hv,aa]
   .refine Yield.pure h (x:=.bool true) ?_ (RdP.bool _);simp[execOp,eqGuard,binOp,zq6 hu,hv,aa]
   .trivial
  .cases hm
 .rename_i hm hid;unfold zi9 at hm;split at hm
  .rename_i kt et hu;rw[hid]at hx;have hv:=zF0 hx;split;.refine Yield.pure h (x:=.bool true) ?_ (RdP.bool _);simp[execOp,eqGuard,binOp,zq6 hu,hv,aa]
   .refine Yield.pure h (x:=.bool false) ?_ (RdP.bool _);simp[execOp,eqGuard,binOp,zq6 hu,hv,aa]
   .trivial
  .cases hm
 .trivial
def zy0(m:Bool)(σ:St)(x:V):R:=match m,x with |true,.mp id=>(match σ[id]?with|some (.mp _ _ clk)=>.st (.ptr σ.length 0) (σ++[.it (some id) clk [] clk])|_=>.fail)|true,.raw (.map none)=>.st (.ptr σ.length 0) (σ++[.it none 0 [] 0])|_,_=>.fail
theorem xz0{pos:String}(t:TypeId)(x:Operand)(h:Sim c nt e σ a w L β):ROk (zy0 (zi9 P t) σ (zF e x)) σ (Yield P c ⟨dst,.range t x,ty,pos,aft,g⟩ a w L σ β):=by
 have hx:=h.eval x;have rd:∀(o:Ob)(w':World),RdS w' L (σ++[o]) (β++[.pointer (some ⟨w.heap.size,0,none⟩)]) (.ptr σ.length 0) (.pointer (some ⟨w.heap.size,0,none⟩)):=λo w'=>⟨w.heap.size,by rw[<-h.mem.len];simp,rfl⟩;unfold zy0;split
 .rename_i id hm hid;unfold zi9 at hm;split at hm
  .rename_i kt et hu;rw[hid]at hx;obtain⟨b,hβ,hv⟩:=zP1 hx;split
   .rename_i kvs bs clk hσ;obtain⟨b',es,e1,hh,hl,ad,ae⟩:=h.mem.objs _ _ _ hσ hβ;cases e1;have key:=h.mem.newOb (.mapIter (some b) clk #[] clk) (.it (some id) clk [] clk) (λhle ab=>⟨w.heap.size,some b,rfl,yG _ _,h.mem.lim _ (A3 _),b,ab.ptr _ _ hβ,rfl⟩) λb hb=>by simp[excl]at hb;exact hb.symm
    refine⟨_,_,L,_,.inl ?_,key.1,key.2,Ext.push σ β h.mem.len _ _,rd _ _⟩;have aa:=run_range_map (P:=P) w t kt et b es clk hu hh;simp[execOp,hv,aa]
   .trivial
  .cases hm
 .rename_i hm hid;unfold zi9 at hm;split at hm
  .rename_i kt et hu;rw[hid]at hx;have hv:=zF0 hx;have key:=h.mem.newOb (.mapIter none 0 #[] 0) (.it none 0 [] 0) (λhle ab=>⟨w.heap.size,none,rfl,yG _ _,h.mem.lim _ (A3 _),rfl⟩) λb hb=>by simp[excl]at hb;exact hb.symm
   refine⟨_,_,L,_,.inl ?_,key.1,key.2,Ext.push σ β h.mem.len _ _,rd _ _⟩;have aa:=run_range_nilMap (P:=P) w t kt et hu;simp[execOp,hv,aa]
  .cases hm
 .trivial
def zI3(seen:List Nat):List V->List Nat->List (V×V×Nat) |k::v::kvs,b::bs=>if seen.contains b then zI3 seen kvs bs else(k,v,b)::zI3 seen kvs bs|_,_=>[]
def zi5(open_:Bool)(σ:St)(x:V):R:=match x with |.ptr i 0=>(match σ[i]?with |some (.it none _ _ _)=>.ok (.tup [.bool false])|some (.it (some id) since seen last)=>(match σ[id]?with |some (.mp kvs bs clk)=>if(bs.all λb=>decide (b<since))=true/\since<=last then(match zI3 seen kvs bs with |[]=>.ok (.tup [.bool false])|[(k,v,b)]=>.st (.tup [.bool true,k,v]) (σ.set i (.it (some id) since (seen++[b]) clk))|l=>if open_ then .any (l.map λp=>(.tup [.bool true,p.1,p.2.1],σ.set i (.it (some id) since (seen++[p.2.2]) clk)))else .fail)else .fail|_=>.fail)|_=>.fail)|_=>.fail
theorem xb5:∀(kvs:List V)(bs:List Nat)(es:List MapEntry)(seen:List Nat),All2 (RdA w L σ β) kvs (es.flatMap λe=>[e.key,e.val])->es.map (·.born)=bs->All2 (λp(e:MapEntry)=>RdA w L σ β p.1 e.key/\RdA w L σ β p.2.1 e.val/\e.born=p.2.2) (zI3 seen kvs bs) (es.filter λe=>!seen.contains e.born)
 |[],bs,[],seen,_,hb=>by simp at hb;subst hb;trivial|[],_,e::es,_,ha,_=>by simp[All2]at ha|[_],_,[],_,ha,_=>by simp[All2]at ha|[_],_,e::es,_,ha,_=>by simp[All2]at ha|_::_::_,_,[],_,ha,_=>by simp[All2]at ha|k::v::kvs,bs,e::es,seen,ha,hb=>by simp only[Bm,Bo,Cu,All2]at ha;obtain⟨h1,h2,h3⟩:=ha;cases bs with |nil=>simp at hb|cons b bs=>
   simp only[Al,List.cons.injEq]at hb;obtain⟨rfl,hb⟩:=hb;have ih:=xb5 kvs bs es seen h3 hb;rw[zI3,Dq];by_cases hc:seen.contains e.born=true;.rw[if_pos hc,if_neg (by rw[hc];simp)];exact ih
   .rw[if_neg hc,if_pos (by simpa using hc)];exact⟨⟨h1,h2,rfl⟩,ih⟩
theorem xI9{w1:World}(h:w1=w∨w1=w.drew)(hm:Mem c w L σ β):Mem c w1 L σ β/\Le w L w1 L:=by
 rcases h with rfl|rfl;.exact⟨hm,Le.refl _ _⟩
 .exact hm.drew
theorem xd2{pos:String}(open_:Bool)(x:Operand)(h:Sim c nt e σ a w L β):ROk (zi5 open_ σ (zF e x)) σ (Yield P c ⟨dst,.next x false,ty,pos,aft,g⟩ a w L σ β):=by
 have hx:=h.eval x;unfold zi5;split
 .rename_i i hid;rw[hid]at hx;obtain⟨r,hβ,hv⟩:=hx;split;.rename_i since seen last hσ;obtain⟨r',mo,e1,hh,hl,ai⟩:=h.mem.objs _ _ _ hσ hβ;cases e1;simp only at ai;subst ai;refine Yield.pure h (x:=.tuple #[.bool false]) ?_ ⟨[.bool false],rfl,RdA.of_cell (RdC.of_pure (.bool _)),tV⟩;simp[execOp,hv,Instr.next,getObj,Sem.run,hh]
  .rename_i id since seen last hσ;obtain⟨r',mo,e1,hh,hl,b,aj,rfl⟩:=h.mem.objs _ _ _ hσ hβ;cases e1;split
   .rename_i kvs bs clk aq;obtain⟨b',es,e1,ar,a1,ak,al⟩:=h.mem.objs _ _ _ aq aj;cases e1;split
    .rename_i hc;have a6:r<w.heap.size:=(Ao.1 hh).1;have ab:=xb5 kvs bs es.toList seen ak al;have au:(leftOf es seen.toArray).toList=es.toList.filter λe=>!seen.contains e.born:=by unfold leftOf;simp
     rw[<-au]at ab;have hold:∀x∈es.toList,x.born<since:=λx hx=>by have:=Af.1 hc.1 x.born (by rw[<-al];exact Ac.2 ⟨x,hx,rfl⟩);simpa using this
     have ad:=run_next_at (P:=P) w ty r b since last seen.toArray es clk hh ar hold hc.2;have ae:∀o,Ext σ β (σ.set i o) β:=λo=>Ext.setOther hσ (λ_ _ q=>by cases q) (λ_ _ q=>by cases q) (λq=>by cases q) o;have step:∀(q:V×V×Nat)(en:MapEntry)(w1:World),(w1=w∨w1=w.drew)->RdA w L σ β q.1 en.key->RdA w L σ β q.2.1 en.val->en.born=q.2.2->(Instr.next (.pointer (some ⟨r,0,none⟩)) false ty).run P w=.ok (.tuple #[.bool true,en.key,en.val]) (ChangeMaps.setBlock w1 r (.mapIter (some b) since (seen.toArray.push en.born) clk))->Yield P c ⟨dst,.next x false,ty,pos,aft,g⟩ a w L σ β (.tup [.bool true,q.1,q.2.1]) (σ.set i (.it (some id) since (seen++[q.2.2]) clk)):=by
      intro q en w1 af h1 h2 h3 aa;obtain⟨av,ag⟩:=xI9 af h.mem;have aw:w1.heap[r]?=some (.mapIter (some b) since seen.toArray last):=by rcases af with rfl|rfl<;>exact hh
      have an:r<w1.heap.size:=(Ao.1 aw).1;have key:=av.setOb (o:=.it (some id) since (seen++[q.2.2]) clk) hσ hβ rfl hl (.mapIter (some b) since (seen.toArray.push en.born) clk) (ae _) (λk h=>by simpa[excl]using h.symm) λhle=>by refine⟨r,some b,rfl,?_,hl,b,aj,rfl⟩;rw[xV _ _ _ an,h3];simp
      refine⟨.tuple #[.bool true,en.key,en.val],yJ w1 r (.mapIter (some b) since (seen.toArray.push en.born) clk),L,β,.inl ?_,key.1,ag.trans key.2,ae _,?_⟩;.simp only[execOp,hv,Sem.run_bind,aa,Result.andThen_ok,Sem.run_pure];rfl
      .exact⟨[.bool true,en.key,en.val],rfl,RdA.of_cell (RdC.of_pure (.bool _)),h1.mono (ag.trans key.2) (ae _),h2.mono (ag.trans key.2) (ae _),tV⟩
     split
     .rename_i ax;rw[ax]at ab;have h0:(leftOf es seen.toArray).size=0:=by have:=ab.length;simpa using this.symm
      rcases ad with⟨_,aa⟩|⟨en,ah,_⟩;.refine Yield.pure h (x:=.tuple #[.bool false]) ?_ ⟨[.bool false],rfl,RdA.of_cell (RdC.of_pure (.bool _)),tV⟩;simp only[execOp,hv,Sem.run_bind,aa,Result.andThen_ok,Sem.run_pure]
      .obtain⟨_,hq,_⟩:=All2.mem_r ab ah;simp at hq
     .rename_i k v b0 ay;rw[ay]at ab;have h0:(leftOf es seen.toArray).size=1:=by have:=ab.length;simpa using this.symm
      rcases ad with⟨hz,_⟩|⟨en,ah,w1,af,aa⟩;.omega
      .obtain⟨q,hq,h1,h2,h3⟩:=All2.mem_r ab ah;simp at hq;subst hq;exact step _ en w1 af h1 h2 h3 aa
     .rename_i l ao az;split;case isFalse=>trivial
      rcases ad with⟨hz,_⟩|⟨en,ah,w1,af,aa⟩;.have:=ab.length;simp[hz]at this;exact absurd this ao
      .obtain⟨q,hq,h1,h2,h3⟩:=All2.mem_r ab ah;exact⟨_,Ac.2 ⟨q,hq,rfl⟩,step q en w1 af h1 h2 h3 aa⟩
    .trivial
   .trivial
  .trivial
 .trivial
def wC(m:Option (Kk×V))(σ:St)(x k:V):R:=match m,x with |some (kd,z),.mp id=>if zo1 kd k=true then(match σ[id]?with |some (.mp kvs bs clk)=>(match zi8 kd k kvs 0with |some (some (i,v))=>(match bs[i]?with|some b=>.ok (.tup [v,.int .i64 (b:Int)])|none=>.fail)|some none=>.st (.tup [z,.int .i64 (clk:Int)]) (σ.set id (.mp (kvs++[k,z]) (bs++[clk]) (clk+1)))|none=>.fail)|_=>.fail)else .fail|_,_=>.fail
theorem yK5(es:Array MapEntry)(i:Nat)(f:MapEntry->MapEntry)(h:∀e,es[i]?=some e->f e=e):es.modify i f=es:=by
 apply Array.ext;.simp
 .intro j h1 h2;rw[Array.getElem_modify];split;.rename_i q;subst q;exact h _ (Au h2)
  .rfl
theorem yL2{pos:String}(t:TypeId)(x k:Operand)(h:Sim c nt e σ a w L β):ROk (wC (mapT P t) σ (zF e x) (zF e k)) σ (Yield P c ⟨dst,.mapEntry t x k,ty,pos,aft,g⟩ a w L σ β):=by
 have hx:=h.eval x;have hk:=h.eval k;unfold wC;split
 .rename_i kd z id hm hid;obtain⟨kt,et,i,zv,hu,af,hi,hz,av,ai⟩:=zB6 hm;rw[hid]at hx;split
  .rename_i ad;have aj:∀em,(Instr.checkKey em 10000 kt (a.eval k)).run P w=.ok () w:=λem=>zB3 af ad hk em;have ao:(zeroValue et).run P w=.ok zv w:=by simp[zeroValue,typeInfo,hi,hz]
   obtain⟨b,hβ,hv⟩:=zP1 hx;split
   .rename_i kvs bs clk hσ;obtain⟨b',es,e1,hh,hl,aa,ag⟩:=h.mem.objs _ _ _ hσ hβ;cases e1;have ak:b<w.heap.size:=(Ao.1 hh).1;have ab:∀o,Ext σ β (σ.set id o) β:=λo=>Ext.setOther hσ (λ_ _ q=>by cases q) (λ_ _ q=>by cases q) (λq=>by cases q) o;have ae:∀ob:Go.Obj,(setObj b ob).run P w=.ok () (yJ w b ob):=λob=>by rw[MapKept.run_setObj_map ob hh];rfl
    split
    .rename_i i0 v0 hf;split
     .rename_i b0 al;rcases zr5 af ad hk aa hf with⟨e1,_⟩|⟨j,v',e',e1,e2,e3,_,e5,kk,e6,e7⟩;.cases e1
      .simp only[Option.some.injEq,Prod.mk.injEq]at e1;obtain⟨rfl,rfl⟩:=e1;have hj:es[i0]?=some e':=by simpa using e3
       have an:e'.key=a.eval k:=by obtain⟨y,hy,r⟩:=aa.get _ _ e6;unfold zw2 at hy;rw[(zv8 _ i0).1,e3]at hy;simp at hy;subst hy;exact(yq1 hk (RdS.of_a r) e7).symm
       have aq:e'.born=b0:=by rw[<-ag,B0,e3]at al;simpa using al
       have ah:(es.modify i0 λe=>{e with key:=a.eval k})=es:=yK5 es i0 _ λe he=>by rw[hj]at he;cases he;rw[<-an]
       have ar:σ.set id (.mp kvs bs clk)=σ:=yE σ id _ hσ;have key:=h.mem.setOb (o:=.mp kvs bs clk) hσ hβ rfl hl (.map es clk) (ab _) (λk h=>by simpa[excl]using h.symm) λhle=>by exact⟨b,_,rfl,xV _ _ _ ak,hl,aa.imp λ_ _=>RdA.mono hle (ab _),ag⟩
       rw[ar]at key;refine⟨.tuple #[e'.val,.int .i64 (b0:Int)],_,L,β,.inl ?_,key.1,key.2,Ext.refl _ _,[e'.val,.int .i64 (b0:Int)],rfl,e5.mono key.2 (Ext.refl _ _),RdA.of_cell (RdC.of_pure (.int _ _)),tV⟩;simp[execOp,Instr.mapEntry,run_underlying hu,hv,MapKept.run_getObj_map hh,aj,e2,ae,hj,an,ys1 ad hk,ah,aq,goInt]
     .trivial
    .rename_i hf;rcases zr5 af ad hk aa hf with⟨_,e2⟩|⟨j,v',e',e1,_⟩
     .have au:RdA w L σ β (zF e k) (a.eval k):=yt2 hk (yg2 ad);have key:=h.mem.setOb (o:=.mp (kvs++[zF e k,z]) (bs++[clk]) (clk+1)) hσ hβ rfl hl (.map (es.push {key:=a.eval k,val:=zv,born:=clk}) (clk+1)) (ab _) (λk h=>by simpa[excl]using h.symm) λhle=>by
       refine⟨b,_,rfl,xV _ _ _ ak,hl,?_,by simp[ag]⟩;have:All2 (RdA w L σ β) (kvs++[zF e k,z]) (zw2 (es.push {key:=a.eval k,val:=zv,born:=clk})):=by simp only[zw2,Array.toList_push,Ed];exact All2.append aa ⟨au,ai _ _ _ _,tV⟩
       exact this.imp λ_ _=>RdA.mono hle (ab _)
      refine⟨.tuple #[zv,.int .i64 (clk:Int)],_,L,β,.inl ?_,key.1,key.2,ab _,[zv,.int .i64 (clk:Int)],rfl,ai _ _ _ _,RdA.of_cell (RdC.of_pure (.int _ _)),tV⟩;simp[execOp,Instr.mapEntry,run_underlying hu,hv,MapKept.run_getObj_map hh,aj,e2,ae,ao,goInt]
     .cases e1
    .trivial
   .trivial
  .trivial
 .trivial
def xO(σ:St)(x s v:V):R:=match x,s with |.mp id,.int _ n=>if wO v=true then(match σ[id]?with
  |some (.mp kvs bs clk)=>(match bs.findIdx? λ(b:Nat)=>(b:Int)==n with |some i=>.st .u (σ.set id (.mp (kvs.set (2*i+1) v) bs clk))|none=>.fail)|_=>.fail)else .fail|_,_=>.fail
theorem yo3{pos:String}(t:TypeId)(x s v:Operand)(h:Sim c nt e σ a w L β):ROk (xO σ (zF e x) (zF e s) (zF e v)) σ (Yield P c ⟨dst,.entryStore t x s v,ty,pos,aft,g⟩ a w L σ β):=by
 have hx:=h.eval x;have hs:=h.eval s;have hv:=h.eval v;unfold xO;split
 .rename_i id k n hid ai;rw[hid]at hx;rw[ai]at hs;have hs:=yH hs;split
  .rename_i hc;obtain⟨b,hβ,aj⟩:=zP1 hx;split
   .rename_i kvs bs clk hσ;obtain⟨b',es,e1,hh,hl,aa,ad⟩:=h.mem.objs _ _ _ hσ hβ;cases e1;have ak:b<w.heap.size:=(Ao.1 hh).1;have ab:∀o,Ext σ β (σ.set id o) β:=λo=>Ext.setOther hσ (λ_ _ q=>by cases q) (λ_ _ q=>by cases q) (λq=>by cases q) o;have ae:∀ob:Go.Obj,(setObj b ob).run P w=.ok () (yJ w b ob):=λob=>by rw[MapKept.run_setObj_map ob hh];rfl
    split
    .rename_i i hf;have af:(es.findIdx? λe=>(e.born:Int)==n)=some i:=by
      rw[<-ad,List.findIdx?_map]at hf;have hq:es.findIdx? (λe=>(e.born:Int)==n)=es.toList.findIdx? λe=>(e.born:Int)==n:=by obtain⟨l⟩:=es;simp
      rw[hq];exact hf
     have hi:i<es.size:=by obtain⟨h1,_⟩:=Array.findIdx?_eq_some_iff_getElem.1 af;exact h1
     have al:RdA w L σ β (zF e v) (a.eval v):=yt2 hv hc;have hlen:=aa.length;unfold zw2 at hlen;rw[yf8]at hlen;simp only[C2]at hlen;have an:2*i<kvs.length:=om;have ag:RdA w L σ β kvs[2*i] es[i].key:=by obtain⟨y,hy,r⟩:=aa.get (2*i) _ (A0 an);unfold zw2 at hy;rw[(zv8 _ i).1,Ak,Au hi]at hy;simp at hy;subst hy;exact r
     have ao:zw9 kvs i kvs[2*i] (zF e v)=kvs.set (2*i+1) (zF e v):=by unfold zw9;rw[List.set_getElem_self]
     have ah:(es.modify i λe=>{e with val:=a.eval v})=es.modify i λe=>{e with key:=es[i].key,val:=a.eval v}:=by
      apply Array.ext;.simp
      .intro j h1 h2;rw[Array.getElem_modify,Array.getElem_modify];split;.rename_i q;subst q;rfl
       .rfl
     have key:=h.mem.setOb (o:=.mp (zw9 kvs i kvs[2*i] (zF e v)) bs clk) hσ hβ rfl hl (.map (es.modify i λe=>{e with key:=es[i].key,val:=a.eval v}) clk) (ab _) (λk h=>by simpa[excl]using h.symm) λhle=>by refine⟨b,_,rfl,xV _ _ _ ak,hl,(xb3 aa ag al hi).imp λ_ _=>RdA.mono hle (ab _),by rw[yp4];exact ad⟩
     rw[ao,<-ah]at key;refine⟨undef,_,L,β,.inr ⟨?_,rfl⟩,key.1,key.2,ab _,tV⟩;simp[execOp,Instr.entryStore,aj,hs,MapKept.run_getObj_map hh,asInt,asIntOf,af,ae]
    .trivial
   .trivial
  .trivial
 .trivial
def zX9(b:Nat):List V->List Nat->Option (V×V) |k::v::kvs,b'::bs=>if b'=b then some (k,v)else zX9 b kvs bs|_,_=>none
def zj5(σ:St)(x:V):R:=match x with |.ptr i 0=>(match σ[i]?with |some (.it (some id) _ seen last)=>(match σ[id]?,seen.getLast? with |some (.mp kvs bs clk),some b=>if clk=last then(match zX9 b kvs bs with|some (k,v)=>.ok (.tup [k,v])|none=>.fail)else .fail|_,_=>.fail)|_=>.fail)|_=>.fail
theorem ent_ok(b:Nat):∀(kvs:List V)(bs:List Nat)(es:List MapEntry)(k v:V),All2 (RdA w L σ β) kvs (es.flatMap λe=>[e.key,e.val])->es.map (·.born)=bs->zX9 b kvs bs=some (k,v)->∃e,es.find? (·.born==b)=some e/\RdA w L σ β k e.key/\RdA w L σ β v e.val
 |[],_,_,_,_,_,_,h=>by simp[zX9]at h|[_],_,_,_,_,_,_,h=>by simp[zX9]at h|_::_::_,_,[],_,_,ha,_,_=>by simp[All2]at ha|k0::v0::kvs,bs,e::es,k,v,ha,hb,h=>by simp only[Bm,Bo,Cu,All2]at ha;obtain⟨h1,h2,h3⟩:=ha;cases bs with |nil=>simp at hb|cons b' bs=>
   simp only[Al,List.cons.injEq]at hb;obtain⟨rfl,hb⟩:=hb;rw[zX9]at h;by_cases q:e.born=b;.rw[if_pos q]at h;simp only[Option.some.injEq,Prod.mk.injEq]at h;obtain⟨rfl,rfl⟩:=h;exact⟨e,by simp[List.find?_cons,q],h1,h2⟩
   .rw[if_neg q]at h;obtain⟨e',g1,g2,g3⟩:=ent_ok b kvs bs es k v h3 hb h;have qb:(e.born==b)=false:=by simpa using q
    exact⟨e',by rw[List.find?_cons,qb];exact g1,g2,g3⟩
theorem xy5{pos:String}(x:Operand)(h:Sim c nt e σ a w L β):ROk (zj5 σ (zF e x)) σ (Yield P c ⟨dst,.entry x,ty,pos,aft,g⟩ a w L σ β):=by
 have hx:=h.eval x;unfold zj5;split
 .rename_i i hid;rw[hid]at hx;obtain⟨r,hβ,hv⟩:=hx;split
  .rename_i id since seen last hσ;obtain⟨r',mo,e1,hh,hl,b,ab,rfl⟩:=h.mem.objs _ _ _ hσ hβ;cases e1;split
   .rename_i kvs bs clk b0 ad ae;obtain⟨b',es,e1,af,aj,aa,ag⟩:=h.mem.objs _ _ _ ad ab;cases e1;split
    .rename_i hc;subst hc;split
     .rename_i k v he;obtain⟨en,g1,g2,g3⟩:=ent_ok b0 kvs bs es.toList k v aa ag he;have ah:es.find? (·.born==b0)=some en:=by rw[<-g1];obtain⟨l⟩:=es;simp
      have ai:seen.toArray.back?=some b0:=by rw[<-ae];simp
      refine Yield.pure h (x:=.tuple #[en.key,en.val]) ?_ ⟨[en.key,en.val],rfl,g2,g3,tV⟩;simp[execOp,hv,Instr.entry,getObj,Sem.run,hh,af,ai,ah]
     .trivial
    .trivial
   .trivial
  .trivial
 .trivial
def yr8(P:Program)(t:TypeId):Bool:=match P.underlying t with|some (.slice _)=>true|_=>false
def zY2(b:Bool)(t:TypeId)(x:V):R:=match b,x with |true,.lsv id s n lo m=>.ok (.ifc t [.lsv id s n lo m])|true,.sl g rows=>.ok (.ifc t [.sl g rows])|_,_=>.fail
theorem xW9{pos:String}(t:TypeId)(x:Operand)(h:Sim c nt e σ a w L β):ROk (zY2 (yr8 P t) t (zF e x)) σ (Yield P c ⟨dst,.makeInterface t x,ty,pos,aft,g⟩ a w L σ β):=by
 have hx:=h.eval x;have hu:yr8 P t=true->(Instr.makeInterface t (a.eval x)).run P w=.ok (.iface t (a.eval x)) w:=λhb=>by
  unfold yr8 at hb;split at hb;.rename_i et hu;simp[Instr.makeInterface,run_underlying hu]
  .cases hb
 unfold zY2;split;.rename_i id s n lo m hb hid;rw[hid]at hx;exact Yield.pure h (x:=.iface t (a.eval x)) (by simp[execOp,hu hb]) ⟨a.eval x,rfl,hx,tV⟩
 .rename_i g rows hb hid;rw[hid]at hx;exact Yield.pure h (x:=.iface t (a.eval x)) (by simp[execOp,hu hb]) ⟨a.eval x,rfl,hx,tV⟩
 .trivial
end
end Go.Vx
