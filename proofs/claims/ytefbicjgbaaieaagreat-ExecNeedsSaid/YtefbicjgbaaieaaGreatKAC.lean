/-
  Operations over trees: conversions, fields of values, function values, make; and all of them under one word.
  No condition: a library text; nothing of the program is named.
-/
import Derived.Test.YtefbicjgbaaieaaGreatKAB
set_option maxHeartbeats 8000000
namespace Go.Vx
open Go
section
variable {P:Program} {c:Ctx} {nt:Nat} {e:Env} {σ:St} {a:Act} {w:World} {L:Nat->Nat} {β:List Value} {o:Oper}
variable {dst:Option Tmp}{ty:TypeId}{aft:Array Edge}{g:Option (Nat×Bool)}{n:Nat}{cap:Nat}
theorem zR4 (arr:Array Value) (k:Nat): ∀(vs:List Value) (j:Nat) (cur:Array Value),(vs.zipIdx j).foldl (fun cs (p:Value×Nat)=>cs.setIfInBounds (k+p.2) p.1) cur=zY cur (k+j) vs
 | [],_,_=>rfl
 |v::vs,j,cur=>by
  rw[List.zipIdx_cons,Bb,zR4 arr k vs (j+1)]
  rfl
theorem zL3 {pl:Nat->Option (Nat×Nat)} {arr:Array Value} {i off s:Nat} {v:Value} {rest:List (Nat×Value)} (hp:pl i=some (off,s)) (hs:v.cells.size=s) (hle:off+s<=arr.size):
  Instr.fill pl arr ((i,v)::rest)=Instr.fill pl (zY arr off v.cells.toList) rest:=by
 rw[Instr.fill]
 simp only[hp]
 have h1:(v.cells.size≠s||decide (off+v.cells.size>arr.size))=false:=by grind
 rw[if_neg (by simp[hs];omega)]
 congr 1
 rw[<-Array.foldl_toList,Array.toList_zipIdx]
 exact zR4 arr off v.cells.toList 0 arr
def zn0:Nat->List (Nat×V)->Bool
 |_,[]=>true
 |k,(i,v)::r=>i==k&&wY v&&zn0 (k+1) r
def zN6 (v:V):Bool:=(xI v).all zy4
def zG4 (v:V):List V:=(xI v).map dem
def zb0 (es:Option Nat) (len:Nat) (parts:List (Nat×V)):R:=
 match es with
 |some s=>if zn0 0 parts=true/\parts.length=len then .need ((∀p∈parts,zN6 p.2=true/\(xI p.2).length=s)/\len*s<=16777216/\0<s) (.sl .full (parts.map fun p=>zG4 p.2))else .fail
 |none=> .fail
theorem All2.map_left {α β γ:Type} {R:γ->β->Prop} {f:α->γ}: ∀{l:List α} {m:List β},All2 (fun x y=>R (f x) y) l m->All2 R (l.map f) m
 | [],[],_=>trivial
 |_::_,_::_,h=>⟨h.1,All2.map_left h.2⟩
 | [],_::_,h=>h.elim
 |_::_,[],h=>h.elim
theorem xM7 {v:V} {x:Value} (r:All2 (RdC w L σ β) (xI v) x.cells.toList) (hp:zN6 v=true):All2 (RdP w L) (zG4 v) x.cells.toList:=by
 unfold zN6 at hp
 unfold zG4
 refine All2.map_left ?_
 revert r hp
 generalize xI v=cs
 generalize x.cells.toList=xs
 intro r hp
 induction cs generalizing xs with
 |nil=>cases xs<;>simpa
 |cons p cs ih=>cases xs with
  |nil=>simpa
  |cons y ys=>
   simp at hp
   exact⟨RdC.dem r.1 hp.1,ih _ r.2 (by grind)⟩
theorem yr3 {s:Nat}: ∀(parts:List (Nat×V)) (aa:List (Nat×Value)) (k:Nat) (arr:Array Value) (done:List V),zn0 k parts=true->(∀p∈parts,zN6 p.2=true/\(xI p.2).length=s)->
  All2 (fun p q=>p.1=q.1/\RdS w L σ β p.2 q.2) parts aa->arr.size=(k+parts.length)*s->done.length=k*s->All2 (RdP w L) done (arr.toList.take (k*s))->
  ∃ab,Instr.fill (fun i=>some (i*s,s)) arr aa=some ab/\ab.size=arr.size/\All2 (RdP w L) (done++(parts.map fun p=>zG4 p.2).flatten) ab.toList
 | [],[],k,arr,done,_,_,_,af,hd,ae=>by
  refine⟨arr,rfl,rfl, ?_⟩
  grind[Al]
 |(i,v)::parts,(i',x)::aa,k,arr,done,ho,hp,⟨⟨hi,hr⟩,ag⟩,af,hd,ae=>by
  simp only[zn0,A6,beq_iff_eq]at ho
  obtain⟨⟨rfl,ah⟩,ho⟩:=ho
  have ai:=hp (i,v) sm
  simp only at hi ai
  subst hi
  have ad:=zp2 hr ah
  have hlen:=ad.length
  simp only[Cu]at hlen
  have al:x.cells.size=s:=om
  simp only[Ag]at af
  have hm:(i+(parts.length+1))*s=i*s+s+parts.length*s:=by grind
  have ao:(i+1)*s=i*s+s:=by grind
  rw[zL3 (s:=s) rfl al om]
  have aj:=xM7 ad ai.1
  have aq:(zG4 v).length=s:=by grind[zG4]
  obtain⟨ab,h1,h2,h3⟩:=yr3 parts aa (i+1) (zY arr (i*s) x.cells.toList) (done++zG4 v) ho (fun p an=>hp p (by simp[an])) ag (by rw[yE,af];grind) (by grind) (by
   have ak:i*s+x.cells.toList.length<=arr.size:=by grind
   have e1:(zY arr (i*s) x.cells.toList).toList.take ((i+1)*s)=arr.toList.take (i*s)++x.cells.toList:=by
    apply Bt
    intro j
    rw[Ai]
    have ar:(List.take (i*s) arr.toList).length=i*s:=by grind
    by_cases hj:j<(i+1)*s
    .rw[if_pos hj,Ap,wF _ _ _ _ ak]
     grind
    grind
   rw[e1]
   exact ae.append aj)
  grind[yE]
 | [],_::_,_,_,_,_,_,h,_,_,_=>h.elim
 |_::_,[],_,_,_,_,_,h,_,_,_=>h.elim
theorem yf7 {s:Nat}: ∀(parts:List (Nat×V)) (aa:List (Nat×Value)) (k:Nat) (arr:Array Value) (done:List V),zn0 k parts=true->(∀p∈parts,(xI p.2).length=s)->
  All2 (fun p q=>p.1=q.1/\RdS w L σ β p.2 q.2) parts aa->arr.size=(k+parts.length)*s->done.length=k*s->All2 (RdC w L σ β) done (arr.toList.take (k*s))->
  ∃ab,Instr.fill (fun i=>some (i*s,s)) arr aa=some ab/\ab.size=arr.size/\All2 (RdC w L σ β) (done++(parts.map fun p=>xI p.2).flatten) ab.toList
 | [],[],k,arr,done,_,_,_,af,hd,ae=>by
  refine⟨arr,rfl,rfl, ?_⟩
  grind[Al]
 |(i,v)::parts,(i',x)::aa,k,arr,done,ho,hp,⟨⟨hi,hr⟩,ag⟩,af,hd,ae=>by
  simp only[zn0,A6,beq_iff_eq]at ho
  obtain⟨⟨rfl,ah⟩,ho⟩:=ho
  have ai:=hp (i,v) sm
  simp only at hi ai
  subst hi
  have ad:=zp2 hr ah
  have hlen:=ad.length
  simp only[Cu]at hlen
  have al:x.cells.size=s:=om
  simp only[Ag]at af
  have hm:(i+(parts.length+1))*s=i*s+s+parts.length*s:=by grind
  have ao:(i+1)*s=i*s+s:=by grind
  rw[zL3 (s:=s) rfl al om]
  have aj:=ad
  have aq:(xI v).length=s:=ai
  obtain⟨ab,h1,h2,h3⟩:=yf7 parts aa (i+1) (zY arr (i*s) x.cells.toList) (done++xI v) ho (fun p an=>hp p (by simp[an])) ag (by rw[yE,af];grind) (by grind) (by
   have ak:i*s+x.cells.toList.length<=arr.size:=by grind
   have e1:(zY arr (i*s) x.cells.toList).toList.take ((i+1)*s)=arr.toList.take (i*s)++x.cells.toList:=by
    apply Bt
    intro j
    rw[Ai]
    have ar:(List.take (i*s) arr.toList).length=i*s:=by grind
    by_cases hj:j<(i+1)*s
    .rw[if_pos hj,Ap,wF _ _ _ _ ak]
     grind
    grind
   rw[e1]
   exact ae.append aj)
  grind[yE]
 | [],_::_,_,_,_,_,_,h,_,_,_=>h.elim
 |_::_,[],_,_,_,_,_,h,_,_,_=>h.elim
theorem All2.of_parts (h:Sim c nt e σ a w L β): ∀(ps:List (Nat×Operand)),All2 (fun p q=>p.1=q.1/\RdS w L σ β p.2 q.2) (ps.map fun p=>(p.1,zD e p.2)) (ps.map fun p=>(p.1,a.eval p.2))
 | []=>trivial
 |p::ps=>⟨⟨rfl,h.eval p.2⟩,All2.of_parts h ps⟩
theorem yo9 {pos:String} (t:TypeId) (len:Nat) (ps:Array (Nat×Operand)) (h:Sim c nt e σ a w L β):
  ROk (zb0 ((elT P t).map (·.1)) len (ps.toList.map fun p=>(p.1,zD e p.2))) σ (Yield P c ⟨dst,.buildSlice t len ps,ty,pos,aft,g⟩ a w L σ β):=by
 unfold zb0
 split
 .rename_i s ak
  split
  .rename_i ae
   obtain⟨ho,hlen⟩:=ae
   rintro⟨hp,al,hs⟩
   obtain⟨el,ai⟩: ∃b,elT P t=some (s,b):=by
    simp_all
   obtain⟨el,i,z,hu,hi,hz,rfl,_,an,_,_⟩:=zd9 ai
   have ab:=All2.of_parts h ps.toList
   have af: ∀aa,Instr.fill (fun k=>some (k*i.size,i.size)) ((Array.range (len*i.size)).map (z.cells[· %z.cells.size]!)) (ps.map fun(k,x)=>(k,a.eval x)).toList=some aa->
     (Instr.buildSlice t len (ps.map fun(k,x)=>(k,a.eval x))).run P w= .ok (.slice (some ⟨w.heap.size,0,none⟩) len len) (w.alloc (.cells aa el)):=by
    intro aa hf
    by_cases h0:len*i.size=0
    .have ao:len=0:=by
      rcases Nat.mul_eq_zero.1 h0 with h|h
      all_goals omega
     simp_all[Array.eq_empty_of_size_eq_zero,Instr.buildSlice,run_underlying,sizeOf,typeInfo,newRow]
    grind[run_buildSlice]
   have ag:(ps.map fun(k,x)=>(k,a.eval x)).toList=ps.toList.map fun p=>(p.1,a.eval p.2):=sm
   obtain⟨aa,hf,aq,ad⟩:=yr3 (s:=i.size) _ _ 0 ((Array.range (len*i.size)).map (z.cells[· %z.cells.size]!)) [] ho hp ab (by grind) sm (by simp[All2])
   rw[<-ag]at hf
   have hr:=af aa hf
   have aj:((ps.toList.map fun p=>(p.1,zD e p.2)).map fun p=>zG4 p.2).length=len:=by grind
   obtain⟨h1,h2⟩:=h.mem.alloc (.cells aa el) (len*i.size)
   refine⟨.slice (some ⟨w.heap.size,0,none⟩) len len,_,_,β,(by simp_all[execOp]),h1,h2,Ext.refl _ _, ?_⟩
   have ah:RdP (w.alloc (.cells aa el)) (xF L w.heap.size (len*i.size)) (.sl .full ((ps.toList.map fun p=>(p.1,zD e p.2)).map fun p=>zG4 p.2)) (.slice (some ⟨w.heap.size,0,none⟩) ((ps.toList.map fun p=>(p.1,zD e p.2)).map fun p=>zG4 p.2).length len):=by
    refine .of_row (xs:=aa.toList) hs (fun r hr=> ?_) (by grind[xF]) om sm om (yH _ _) sm ?_
    .obtain⟨p,ar,rfl⟩:=Ac.1 hr
     grind[zG4]
    .simp only[Cs]at ad
     exact ad.imp (by grind[RdP.mono])
   rw[aj]at ah
   trivial
  trivial
 trivial
def plcT (P:Program) (t:TypeId):Option (List (Nat×Nat)):=
 match P.underlying t with
 |some (.struct fs)=>fs.toList.mapM fun f=>(P.info? f.type).map fun i=>(f.offset,i.size)
 |some (.array n el)=>(P.info? el).map fun i=>(List.range n).map fun k=>(k*i.size,i.size)
 |_=>none
def yw3 (pl:List (Nat×Nat)) (cells:List V):List (Nat×V)->Option (List V)
 | []=>some cells
 |(i,v)::r=>(match pl[i]? with
  |some (off,s)=>if wY v=true/\(xI v).length=s/\off+s<=cells.length then yw3 pl (putCells cells off (xI v)) r else none
  |none=>none)
def zx4 (zs:Option (List V)) (pl:Option (List (Nat×Nat))) (parts:List (Nat×V)):R:=
 match zs,pl with
 |some z,some pl=>(match yw3 pl z parts with|some cs=> .ok (.agg cs)|none=> .fail)
 |_,_=> .fail
theorem yk9 {pl:List (Nat×Nat)} {ag:Nat->Option (Nat×Nat)} (ah: ∀i x,pl[i]? =some x->ag i=some x): ∀(parts:List (Nat×V)) (aa:List (Nat×Value)) (cells cs:List V) (arr:Array Value),yw3 pl cells parts=some cs->
  All2 (fun p q=>p.1=q.1/\RdS w L σ β p.2 q.2) parts aa->All2 (RdC w L σ β) cells arr.toList-> ∃ae,Instr.fill ag arr aa=some ae/\All2 (RdC w L σ β) cs ae.toList
 | [],[],cells,cs,arr,h,_,ab=>by simp[yw3]at h;subst h;exact⟨arr,rfl,ab⟩
 |(i,v)::parts,(i',x)::aa,cells,cs,arr,h,⟨⟨hi,hr⟩,af⟩,ab=>by
  simp only at hi
  subst hi
  rw[yw3]at h
  split at h
  .rename_i off s hp
   split at h
   .rename_i hc
    have ad:=zp2 hr hc.1
    have hl:=ad.length
    have ai:=ab.length
    simp only[Cu]at hl ai
    rw[zL3 (s:=s) (ah _ _ hp) (by rw[<-hl];exact hc.2.1) om]
    exact yk9 ah parts aa _ cs _ h af (by grind[zY0])
   grind
  grind
 | [],_::_,_,_,_,_,h,_=>h.elim
 |_::_,[],_,_,_,_,h,_=>h.elim
theorem xD2 {pos:String} (t:TypeId) (ps:Array (Nat×Operand)) (h:Sim c nt e σ a w L β):
  ROk (zx4 (wI P t) (plcT P t) (ps.toList.map fun p=>(p.1,zD e p.2))) σ (Yield P c ⟨dst,.build t ps,ty,pos,aft,g⟩ a w L σ β):=by
 unfold zx4
 split
 .rename_i z pl hz ad
  split
  .rename_i cs hf
   obtain⟨i,zv,hi,ag,ah,rfl⟩:=zF7 hz
   have ab:=All2.of_parts h ps.toList
   have ae:All2 (RdC w L σ β) (zv.cells.toList.map zc1) zv.cells.toList:=(zX9 ah).imp fun _ _=>RdC.of_pure
   have ai:(ps.map fun(k,x)=>(k,a.eval x)).toList=ps.toList.map fun p=>(p.1,a.eval p.2):=sm
   have af: ∃aa,P.built t (ps.map fun(k,x)=>(k,a.eval x)).toList=some aa/\All2 (RdC w L σ β) cs aa.toList:=by
    unfold plcT at ad
    unfold Program.built
    rw[hi,ai]
    split at ad
    .rename_i fs hu
     simp only[hu,ag,ad]
     exact yk9 sm _ _ _ _ _ hf ab ae
    .rename_i n el hu
     cases aj:P.info? el with
     |none=>grind
     |some ie=>
      simp only[aj,B8,Option.some.injEq]at ad
      subst ad
      simp only[hu,ag,aj]
      refine yk9 (fun k x hk=> ?_) _ _ _ _ _ hf ab ae
      grind
    grind
   obtain⟨aa,hb,ak⟩:=af
   refine Yield.pure h (x:= .agg aa) ?_ ⟨aa.toList,sm,ak⟩
   simp_all[run_build,execOp]
  trivial
 trivial
def bnd (v:Option V) (d:Int):Option Int:=
 match v with
 |none=>some d
 |some (.int _ n)=>some n
 |some _=>none
def zm9 (ar:Option (Nat×Nat×Bool)) (k:Nat) (es:Option Nat) (x:V) (lo hi:Option V):R:=
 match x with
 | .lsv id s n l0 m=>(match bnd lo 0,bnd hi m,es with
  |some l,some h,some z=>if k=2 then .need (0<=l/\l<=h/\(h<=m∨(l0:Int)+h<=n)/\z=s) (.lsv id s n (l0+l.toNat) (h - l).toNat)else .fail
  |_,_,_=> .fail)
 | .ptr id off=>(match lo,hi,ar with
  |none,none,some (n,s,_)=> .ok (.bsv id s off n)
  |_,_,_=> .fail)
 | .str s=>(match bnd lo 0,bnd hi s.length with
  |some l,some h=>if k=1 then .need (0<=l/\l<=h/\h<=s.length) (.str ((s.take h.toNat).drop l.toNat))else .fail
  |_,_=> .fail)
 | .sl _ rows=>(match bnd lo 0,bnd hi rows.length,es with
  |some l,some h,some z=>if k=2 then .need (0<=l/\l<=h/\h<=rows.length/\uni z rows) (.sl .ro ((rows.take h.toNat).drop l.toNat))else .fail
  |_,_,_=> .fail)
 |_=> .fail
theorem zg0 {v:Value} {k:IntKind} {i:Int} {y:Nat} {code:BoundsCode} (hv:v= .int k i) (h0:0<=i) (hy:i<=y) (w:World):(Instr.sliceBound v y code).run P w= .ok i.toNat w:=by
 simp_all[Instr.sliceBound,asIntOf]
theorem xu6 {x:Option Operand} {d n:Int} (hb:bnd (x.map (zD e)) d=some n) (h:Sim c nt e σ a w L β):(x=none/\n=d)∨ ∃p k,x=some p/\a.eval p= .int k n:=by
 unfold bnd at hb
 split at hb
 .simp_all
 .rename_i k m hx
  cases x with
  |none=>grind
  |some p=>
   simp at hx hb
   subst hb
   exact .inr ⟨p,k,rfl,yM (hx▸h.eval p)⟩
 grind
theorem zF2 {isS:Bool} {len l hh:Nat} {lo hi:Option Value} (aa:(lo=none/\l=0)∨ ∃k,lo=some (.int k l)) (ab:(hi=none/\hh=len)∨ ∃k,hi=some (.int k hh)) (h1:l<=hh) (h2:hh<=cap) (w:World):
  (Instr.sliceBounds isS len cap lo hi none).run P w= .ok (l,hh,cap) w:=by
 rcases aa with ⟨rfl,rfl⟩|⟨k,rfl⟩<;>rcases ab with ⟨rfl,rfl⟩|⟨k',rfl⟩
 .rfl
 .have:=fun code=>zg0 (P:=P) (code:=code) (v:= .int k' hh) (y:=cap) rfl om om w
  simp_all[Instr.sliceBounds]
 .have:=fun code=>zg0 (P:=P) (code:=code) (v:= .int k l) (y:=hh) rfl om om w
  simp_all[Instr.sliceBounds]
 .have e1:=fun code=>zg0 (P:=P) (code:=code) (v:= .int k l) (y:=hh) rfl om om w
  have e2:=fun code=>zg0 (P:=P) (code:=code) (v:= .int k' hh) (y:=cap) rfl om om w
  simp_all[Instr.sliceBounds]
theorem yU7 (s:List UInt8) (l h:Nat):(ByteArray.mk s.toArray).extract l h=ByteArray.mk ((s.take h).drop l).toArray:=by
 apply ByteArray.ext
 grind[ByteArray.data_extract]
theorem RdP.sub {rows:List (List V)} {s l hh:Nat} {ad:Option Addr} (r:RdP w L (.sl .ro rows) (.slice ad n cap)) (hs:0<s) (hu:uni s rows) (h1:l<=hh) (h2:hh<=rows.length):
  RdP w L (.sl .ro ((rows.take hh).drop l)) (.slice (if cap=l then ad else ad.map (·.add (l*s))) (hh - l) (cap - l)):=by
 have hlen:((rows.take hh).drop l).length=hh - l:=by grind
 by_cases h0:hh - l=0
 .have ae:(rows.take hh).drop l= []:=(by grind)
  rw[ae,h0]
  exact .sl0 _ _ _ sm sm
 .have af:rows≠ []:=(by grind)
  obtain⟨s',b,o',aj,e1,ag,aa,hlim,hcap,_,hc⟩:=r.flat af
  cases e1
  have ah:s'=s:=by
   obtain⟨r0,rest,rfl⟩:=Di af
   rw[<-aa r0 sm,hu r0 sm]
  subst ah
  rw[if_neg om]
  simp only[B8,xV]
  have hm:(rows.length)*s'=l*s'+(hh - l)*s'+(rows.length - hh)*s':=by rw[<-B4,<-B4];grind
  rw[<-hlen]
  have ab:uni s' ((rows.take hh).drop l):=fun q hq=>aa q (by grind)
  refine .of_flat ag ab (by grind) om sm sm fun k v hk=> ?_
  have ak:k<(hh - l)*s':=by
   have:=(A3.1 hk).1
   rwa [zW ab,hlen]at this
  have hi:k/s'<hh - l:=by simp_all[Cw]
  have hj:k%s'<s':=Do _ ag
  have ai:k=k/s'*s'+k%s':=by grind[Dv]
  rw[ai,yP _ _ ab hj]at hk
  rw[Bj,Ai,if_pos om]at hk
  have al:rows.flatten[(l+k/s')*s'+k%s']? =some v:=by rw[yP _ _ aa hj];exact hk
  grind
theorem xE1 {pos:String} (t:TypeId) (x:Operand) (lo hi:Option Operand) (h:Sim c nt e σ a w L β):
  ROk (zm9 (arrT P t) (lenT P t) ((elT P t).map (·.1)) (zD e x) (lo.map (zD e)) (hi.map (zD e))) σ (Yield P c ⟨dst,.slice t x lo hi none,ty,pos,aft,g⟩ a w L σ β):=by
 have hx:=h.eval x
 have conv: ∀{z:Option Operand} {d n:Int} {m:Nat},bnd (z.map (zD e)) d=some n->n=m-> ∀{dn:Nat},d=dn->((z.map a.eval)=none/\m=dn)∨ ∃k,(z.map a.eval)=some (.int k m):=by
  intro z d n m hz hn dn hd
  rcases xu6 hz h with ⟨rfl,q⟩|⟨p,k,rfl,q⟩
  all_goals grind
 unfold zm9
 split
 .rename_i id s n l0 m h1
  rw[h1]at hx
  split
  .rename_i l hh z hl aa hz
   split
   .rename_i hk
    obtain⟨ai,aj⟩:=zN2 hk
    rintro⟨a0,a1,a2,rfl⟩
    have r1:=conv hl (m:=l.toNat) om (dn:=0) rfl
    have r2:=conv aa (m:=hh.toNat) om (dn:=m) rfl
    obtain⟨ak,ab⟩: ∃b,elT P t=some (z,b):=by
     simp_all
    obtain⟨el,i,zz,hu,al,an,rfl,_,ao,hs,_⟩:=zd9 ab
    obtain⟨ad,cap,hv,aw,ae,hc⟩:=hx
    have aq:hh.toNat<=cap:=om
    have:=zF2 (P:=P) (isS:=true) (len:=m) (cap:=cap) r1 r2 om aq w
    refine Yield.pure h (x:= .slice (if cap=l.toNat then ad else ad.map (·.add (l.toNat*i.size))) (hh.toNat - l.toNat) (cap - l.toNat)) ?_ ?_
    .simp_all[execOp,Instr.sliceAt,run_underlying,Instr.slice,sizeOf,typeInfo]
    .refine⟨_,cap - l.toNat,by rw[show(hh - l).toNat=hh.toNat - l.toNat by omega],om,fun hp=> ?_, ?_⟩
     .obtain⟨b,o,rfl⟩:=ae om
      rw[if_neg om]
      simp[xV]
     .rcases hc with hd|⟨rows,hσ,hn,hb⟩
      .grind
      .refine .inr ⟨rows,hσ,hn,fun q1=> ?_⟩
       obtain⟨b0,c0,hβ,ax,ar,af⟩:=hb q1
       clear hb ae
       refine⟨b0,c0,hβ,om,om,fun ay=> ?_⟩
       obtain⟨k0,e1,e2⟩:=af om
       simp_all[xV,B4];omega
   trivial
  trivial
 .rename_i id off h1
  rw[h1]at hx
  split
  .rename_i n sz ag ar az au
   obtain⟨bl,hb,hv⟩:=hx
   obtain⟨el,hu,ab,_⟩:=zK7 au
   have e1:lo=none:=by simp_all
   have e2:hi=none:=by simp_all
   subst e1 e2
   refine Yield.pure h (x:= .slice (some ⟨bl,off,none⟩) n n) ?_ ⟨bl,hb,rfl⟩
   simp_all[execOp,Instr.sliceAt,run_underlying,Instr.sureAddr,Instr.sliceBounds,wT,xV]
  trivial
 .rename_i s h1
  rw[h1]at hx
  split
  .rename_i l hh hl aa
   split
   .rename_i hk
    have hu:=xe8 hk
    rintro⟨a0,a1,a2⟩
    have r1:=conv hl (m:=l.toNat) om (dn:=0) rfl
    have r2:=conv aa (m:=hh.toNat) om (dn:=s.length) rfl
    refine Yield.pure h (x:= .string ⟨((s.take hh.toNat).drop l.toNat).toArray⟩) ?_ (RdP.str _)
    have:=zF2 (P:=P) (isS:=false) (len:=(ByteArray.mk s.toArray).size) (cap:=(ByteArray.mk s.toArray).size) r1 (by rw[zu0];exact r2) om (by rw[zu0];omega) w
    simp[execOp,wV hx,Instr.sliceAt,run_underlying hu,Instr.slice,this,yU7]
   trivial
  trivial
 .rename_i gg rows h1
  rw[h1]at hx
  split
  .rename_i l hh z hl aa hz
   split
   .rename_i hk
    obtain⟨ai,aj⟩:=zN2 hk
    rintro⟨a0,a1,a2,av⟩
    have r1:=conv hl (m:=l.toNat) om (dn:=0) rfl
    have r2:=conv aa (m:=hh.toNat) om (dn:=rows.length) rfl
    obtain⟨ak,ab⟩: ∃b,elT P t=some (z,b):=by
     simp_all
    obtain⟨el,i,zz,hu,al,an,rfl,_,ao,hs,_⟩:=zd9 ab
    have hr:=zw0 hx
    obtain⟨base,cap,hv,a6,_⟩:=hr.len
    rw[hv]at hr
    have ah:=hr.sub (l:=l.toNat) (hh:=hh.toNat) hs av om om
    refine Yield.pure h (x:= .slice (if cap=l.toNat then base else base.map (·.add (l.toNat*i.size))) (hh.toNat - l.toNat) (cap - l.toNat)) ?_ ah
    have:=zF2 (P:=P) (isS:=true) (len:=rows.length) (cap:=cap) r1 r2 om om w
    simp_all[execOp,Instr.sliceAt,run_underlying,Instr.slice,sizeOf,typeInfo]
   trivial
  trivial
 trivial
def zq5 (k:Nat) (es:Option Nat) (σ:St) (x lo:V):R:=
 match x,lo,es with
 | .sl (.app id) rows,.int _ l,some z=>(match σ[id]? with
  |some (.app n s)=>if k=2 then .needst (0<=l/\l<=rows.length/\rows.length=n/\z=s) (.sl (.app σ.length) (rows.drop l.toNat)) (σ.set id (.app (n+1) s)++ [.app (n - l.toNat) s])else .fail
  |_=> .fail)
 |_,_,_=> .fail
theorem Ext.setApp {i s m:Nat} {x y:Value} (hi:σ[i]? =some (.app n s)) (hβ:β[i]? =some x) (hx: ∀a,x≠ .pointer a) (aa:n<m):
  Ext σ β (σ.set i (.app m s)) (β.set i y):=by
 have ab:i<σ.length:=(by grind)
 refine⟨(by grind),(by grind),(by grind),(by grind)⟩
 all_goals grind
theorem xq3 {pos:String} (t:TypeId) (x lo:Operand) (h:Sim c nt e σ a w L β):
  ROk (zq5 (lenT P t) ((elT P t).map (·.1)) σ (zD e x) (zD e lo)) σ (Yield P c ⟨dst,.slice t x (some lo) none none,ty,pos,aft,g⟩ a w L σ β):=by
 have hx:=h.eval x
 have ah:=h.eval lo
 unfold zq5
 split
 .rename_i id rows kk l z h1 h2 hz
  rw[h1]at hx
  rw[h2]at ah
  split
  .rename_i n s hσ
   split
   .rename_i hk
    obtain⟨a7,a8⟩:=zN2 hk
    rintro⟨a0,a1,hn,ai⟩
    subst ai
    obtain⟨aA,an⟩: ∃b,elT P t=some (z,b):=by
     simp_all
    obtain⟨el,i,zz,hu,aB,aC,rfl,_,aD,hs,_⟩:=zd9 an
    obtain⟨hr,n',s',e1,hle,ao,aq⟩:=hx
    rw[hσ]at e1;cases e1
    have hβ:=ao hn
    have hok:=h.mem.objs id _ _ hσ hβ
    obtain⟨ad,cap,hv,ar,aj,aa⟩:=hok
    rw[hv]at hr hβ
    have aE:id<σ.length:=(by grind)
    subst hn
    have ae:=hr.sub (l:=l.toNat) (hh:=rows.length) hs aq om om
    rw[Al (A5 _)]at ae
    have hb:=zF2 (P:=P) (isS:=true) (len:=rows.length) (cap:=cap) (l:=l.toNat) (hh:=rows.length) (lo:=some (a.eval lo)) (hi:=none) (.inr ⟨kk,by rw[yM ah];grind⟩) sm om ar w
    have ab:Ext σ β (σ.set id (.app (rows.length+1) i.size)) (β.set id (.slice none (rows.length+1) (rows.length+1))):=(by grind[Ext.setApp])
    have ak:Mem c w L (σ.set id (.app (rows.length+1) i.size)) (β.set id (.slice none (rows.length+1) (rows.length+1))):=by
     refine h.mem.upd id _ _ (Le.refl _ _) ab (fun _=>False) sm sm sm rfl rfl rfl rfl h.mem.lim ?_ (fun b q=> ?_)
     .exact⟨none,_,rfl,om,aj,om⟩
     trivial
    have hex: ∀b,excl (.app (rows.length - l.toNat) i.size) (.slice (if cap=l.toNat then ad else ad.map (·.add (l.toNat*i.size))) (rows.length - l.toNat) (cap - l.toNat))=some b->excl (.app rows.length i.size) (.slice ad rows.length cap)=some b:=fun b q=>by
     clear aa
     by_cases q1:cap=l.toNat
     .rw[if_pos q1]at q
      cases ad<;>simp_all[excl]
     .rw[if_neg q1]at q
      cases ad with
      |none=>simpa
      |some a1=>
       simp only[excl,B8]at q⊢
       split at q
       .rename_i q2
        rw[if_pos om]
        rw[<-q];unfold Addr.add;grind
       grind
    have au:=ak.push (.app (rows.length - l.toNat) i.size) (.slice (if cap=l.toNat then ad else ad.map (·.add (l.toNat*i.size))) (rows.length - l.toNat) (cap - l.toNat))
     ⟨_,_,rfl,om,aj,fun q=>by
      have q0:rows.length<cap:=om
      obtain⟨b,o,arr,T,fz,rfl,hh,hf,a6,hL⟩:=aa q0
      have q1: ¬cap=l.toNat:=om
      refine⟨b,o+l.toNat*i.size,arr,T,fz,by simp_all[xV],hh,hf, ?_, ?_⟩
      .rw[Ds,<-B4]
       grind
      .rw[hL,Ds,<-B4]
       grind⟩
     (fun j o' x' b av al he af=>by
      have aw:=hex b af
      rcases ze7 av with ⟨rfl,rfl,_⟩|⟨ax,ay⟩
      .rcases ze7 al with ⟨_,rfl,_⟩|⟨q,_⟩
       all_goals trivial
      .rcases ze7 al with ⟨q,_,_⟩|⟨_,az⟩
       .omega
       .exact h.mem.apart j id _ _ _ _ b ax ay az hσ hβ he aw)
     (fun b af=>h.mem.mine id _ _ b hσ hβ (hex b af))
    have ag:=ab.trans (Ext.push _ _ ak.len (.app (rows.length - l.toNat) i.size) (.slice (if cap=l.toNat then ad else ad.map (·.add (l.toNat*i.size))) (rows.length - l.toNat) (cap - l.toNat)))
    refine⟨_,w,L,_,.inl ?_,au,Le.refl _ _,ag,ae,rows.length - l.toNat,i.size,sm,sm,fun _=>by simp[h.mem.len],(by grind)⟩
    simp_all[execOp,Instr.sliceAt,run_underlying,Instr.slice,sizeOf,typeInfo]
   trivial
  trivial
 trivial
def zq4 (es:Option Nat) (x lo hi mx:V):R:=
 match x,lo,hi,mx,es with
 | .sl _ rows,.int _ l,.int _ h,.int _ m,some z=> .need (0<=l/\l<=h/\h<=rows.length/\m=h/\uni z rows) (.sl .full ((rows.take h.toNat).drop l.toNat))
 | .lsv _ s _ _ n,.int _ l,.int _ h,.int _ m,some z=> .need (0<=l/\l<=h/\h<=m/\m<=n/\z=s) (if l=m then .sl .full []else .u)
 |_,_,_,_,_=> .fail
theorem RdP.full {rows:List (List V)} {ad:Option Addr} (r:RdP w L (.sl .ro rows) (.slice ad n n)) (hn:n=rows.length):RdP w L (.sl .full rows) (.slice ad n n):=by
 cases r with
 |sl0 _ a cap hg ha=>exact .sl0 _ _ _ om sm
 |sl _ _ s b o cap c ha hs hlen hlim hcap hg hc hr=>exact .sl _ rows s b o _ c sm hs hlen hlim hcap om hc hr
theorem RdP.shrink {rows:List (List V)} {s M:Nat} {base:Option Addr} (hr:RdP w L (.sl .ro rows) (.slice base n cap)) (hs:0<s) (ad:uni s rows) (hM:M<=rows.length):RdP w L (.sl .ro (rows.take M)) (.slice base M M):=by
 have hlen:(rows.take M).length=M:=by grind
 by_cases h0:M=0
 .subst h0
  exact .sl0 _ _ _ om sm
 .have aa:rows≠ []:=(by grind)
  obtain⟨s',b,o',ag,q,ae,ab,hlim,hcap,_,hc⟩:=hr.flat aa
  cases q
  have af:s'=s:=by
   obtain⟨r0,rest,rfl⟩:=Di aa
   rw[<-ab r0 sm,ad r0 sm]
  subst af
  have hm:M*s'<=rows.length*s':=Ao _ hM
  have key:RdP w L (.sl .ro (rows.take M)) (.slice (some ⟨b,o',none⟩) (rows.take M).length M):=by
   refine .of_flat ae (fun q hq=>ab q (by grind)) (by grind) om sm om fun k v hk=>hc k v ?_
   grind[Bf]
  grind
theorem xq2 {pos:String} (t:TypeId) (x lo hi mx:Operand) (h:Sim c nt e σ a w L β):
  ROk (zq4 ((elT P t).map (·.1)) (zD e x) (zD e lo) (zD e hi) (zD e mx)) σ (Yield P c ⟨dst,.slice t x (some lo) (some hi) (some mx),ty,pos,aft,g⟩ a w L σ β):=by
 have hx:=h.eval x
 have h2:=h.eval lo
 have h3:=h.eval hi
 have h4:=h.eval mx
 unfold zq4
 split
 .rename_i gg rows k1 l k2 hh k3 m z e1 e2 e3 e4 hz
  rw[e1]at hx;rw[e2]at h2;rw[e3]at h3;rw[e4]at h4
  have e2:=yM h2;have e3:=yM h3;have e4:=yM h4
  rintro⟨a0,a1,a2,rfl,af⟩
  obtain⟨ag,ab⟩: ∃b,elT P t=some (z,b):=by
   simp_all
  obtain⟨el,i,zz,hu,ah,ai,rfl,_,aj,hs,_⟩:=zd9 ab
  have hr:=zw0 hx
  obtain⟨base,cap,hv,al,_⟩:=hr.len
  rw[hv]at hr
  have ae:=hr.shrink (M:=m.toNat) hs af om
  have aa:=ae.sub (l:=l.toNat) (hh:=m.toNat) hs (fun q hq=>af q (by grind)) om (by grind)
  rw[E4,Nat.min_self]at aa
  refine Yield.pure h (x:= .slice (if m.toNat=l.toNat then base else base.map (·.add (l.toNat*i.size))) (m.toNat - l.toNat) (m.toNat - l.toNat)) ?_ (aa.full (by grind))
  have b1:=fun code=>zg0 (P:=P) (code:=code) e2 a0 (show l<=(m.toNat:Nat) by omega) w
  have b2:=fun code=>zg0 (P:=P) (code:=code) e3 om (show m<=(m.toNat:Nat) by omega) w
  have b3:=fun code=>zg0 (P:=P) (code:=code) e4 om (show m<=(cap:Nat) by omega) w
  simp_all[run_underlying,execOp,Instr.sliceAt,Instr.slice,Instr.sliceBounds,sizeOf,typeInfo]
 .rename_i id s n0 an n k1 l k2 hh k3 m z e1 e2 e3 e4 hz
  rw[e1]at hx;rw[e2]at h2;rw[e3]at h3;rw[e4]at h4
  have e2:=yM h2;have e3:=yM h3;have e4:=yM h4
  rintro⟨a0,a1,a2,a3,rfl⟩
  obtain⟨ag,ab⟩: ∃b,elT P t=some (z,b):=by
   simp_all
  obtain⟨el,i,zz,hu,ah,ai,rfl,_,aj,hs,_⟩:=zd9 ab
  obtain⟨ad,cap,hv,ak,_,_⟩:=hx
  refine Yield.pure h (x:= .slice (if m.toNat=l.toNat then ad else ad.map (·.add (l.toNat*i.size))) (hh.toNat - l.toNat) (m.toNat - l.toNat)) ?_ (by
   split
   .have h1:hh.toNat - l.toNat=0:=om
    have h2:m.toNat - l.toNat=0:=om
    rw[h1,h2]
    exact RdP.sl0 _ _ _ om sm
   trivial)
  have b1:=fun code=>zg0 (P:=P) (code:=code) e2 a0 (show l<=(hh.toNat:Nat) by omega) w
  have b2:=fun code=>zg0 (P:=P) (code:=code) e3 om (show hh<=(m.toNat:Nat) by omega) w
  have b3:=fun code=>zg0 (P:=P) (code:=code) e4 om (show m<=(cap:Nat) by have:=ak.1;omega) w
  simp_all[execOp,Instr.sliceAt,run_underlying,Instr.slice,Instr.sliceBounds,sizeOf,typeInfo]
 trivial
end
section
variable {P:Program} {c:Ctx} {nt:Nat} {e:Env} {σ:St} {a:Act} {w:World} {L:Nat->Nat} {β:List Value} {o:Oper}
variable {dst:Option Tmp}{ty:TypeId}{aft:Array Edge}{g:Option (Nat×Bool)}{t:TypeId}
def zp7:List V->UInt8
 | [.int _ n]=>UInt8.ofNat n.toNat
 |_=>0
def zR6 (rows:List (List V)):Prop:= ∀r∈rows,∃n,r= [.int .u8 n]
theorem wS (s:List UInt8):zR6 (zP s):=fun r hr=>by
 obtain⟨b,_,rfl⟩:=Ac.1 hr;simp
theorem zj4 (s:List UInt8):(zP s).map zp7=s:=by
 simp[zP,B6,zp7]
def zD3 (ks kd:Option Kd) (x:V):R:=
 match kd,x with
 |some (.int k),.int _ n=>if ks.isSome then .ok (.int k (k.wrap n))else .fail
 |some .str,.str s=>if ks.isSome then .ok (.str s)else .fail
 |some .bytes,.str s=>if ks=some .str then .ok (.sl .ro (zP s))else .fail
 |some .str,.sl _ rows=>if ks=some .bytes then .need (zR6 rows) (.str (rows.map zp7))else .fail
 |_,_=> .fail
theorem xP1 {k:IntKind} (h:kdT P t=some (.int k)):P.underlying t=some (.int k):=by
 grind[kdT]
theorem zL5 (h:kdT P t=some .str):P.underlying t=some .string:=by
 grind[kdT]
theorem zW1 (h:kdT P t=some .bytes): ∃el,P.underlying t=some (.slice el)/\P.underlying el=some (.int .u8):=by
 grind[kdT]
theorem yL1 (h:(kdT P t).isSome=true): ∃d,P.underlying t=some d:=by
 grind[kdT]
theorem xq8 {rows:List (List V)} (h:zR6 rows): ∃xs:List Int,rows=xs.map (fun n=> [V.int .u8 n]):=by
 induction rows with
 |nil=>simp
 |cons r rows ih=>
  obtain⟨n,hn⟩:=h r sm
  obtain⟨xs,hx⟩:=ih fun q hq=>h q (by grind)
  exact⟨n::xs,by grind⟩
theorem xQ4 {pos:String} (t t':TypeId) (x:Operand) (h:Sim c nt e σ a w L β):
  ROk (zD3 (kdT P t) (kdT P t') (zD e x)) σ (Yield P c ⟨dst,.convert t t' x,ty,pos,aft,g⟩ a w L σ β):=by
 have hx:=h.eval x
 unfold zD3
 split
 .rename_i k k' n hk h1
  rw[h1]at hx
  split
  .rename_i hs
   obtain⟨d,hd⟩:=yL1 hs
   exact Yield.pure h (x:= .int k (k.wrap n)) (by simp[execOp,yM hx,convert,run_underlying hd,run_underlying (xP1 hk),Conv.intToInt]) (RdP.int _ _)
  trivial
 .rename_i s hk h1
  rw[h1]at hx
  split
  .rename_i hs
   obtain⟨d,hd⟩:=yL1 hs
   exact Yield.pure h (x:= .string ⟨s.toArray⟩) (by simp[execOp,wV hx,convert,run_underlying hd,run_underlying (zL5 hk)]) (RdP.str _)
  trivial
 .rename_i s hk h1
  rw[h1]at hx
  split
  .rename_i hs
   obtain⟨el,hu,he⟩:=zW1 hk
   have hr:=run_bytes_of_string (P:=P) w t t' el ⟨s.toArray⟩ (zL5 hs) hu he
   have hd:=h.mem.drew
   obtain⟨h1,h2⟩:=hd.1.alloc (.cells (bytesRow ⟨s.toArray⟩ (grownCap w (ByteArray.mk s.toArray).size 0 el)) el ((bytesRow ⟨s.toArray⟩ (grownCap w (ByteArray.mk s.toArray).size 0 el)).size,(bytesRow ⟨s.toArray⟩ (grownCap w (ByteArray.mk s.toArray).size 0 el)).size+1)) s.length
   refine⟨_,_,_,β,.inl (by simp only[execOp,wV hx,Sem.run_bind,hr,Result.andThen_ok,Sem.run_pure];rfl),h1,hd.2.trans h2,Ext.refl _ _, ?_⟩
   have ag:=grownCap_ge w (ByteArray.mk s.toArray).size 0 el
   have hl:(zP s).length=s.length:=by simp[zP]
   have:RdP (w.drew.alloc (.cells (bytesRow ⟨s.toArray⟩ (grownCap w (ByteArray.mk s.toArray).size 0 el)) el ((bytesRow ⟨s.toArray⟩ (grownCap w (ByteArray.mk s.toArray).size 0 el)).size,(bytesRow ⟨s.toArray⟩ (grownCap w (ByteArray.mk s.toArray).size 0 el)).size+1))) (xF L w.drew.heap.size s.length) (.sl .ro (zP s)) (.slice (some ⟨w.drew.heap.size,0,none⟩) (zP s).length (grownCap w (ByteArray.mk s.toArray).size 0 el)):=by
    refine .of_row (xs:=byteCells ⟨s.toArray⟩) (s:=1) om (zQ3 s) (by grind[xF]) (by grind[zu0]) sm sm (yH _ _) (fun k v hk=> ?_) (zp6 s)
    have ah:=(A3.1 hk).1
    simp_all[bytesRow,Ec,byteCells]
   rw[hl,<-zu0 s]at this
   simpa
  trivial
 .rename_i gg rows hk h1
  rw[h1]at hx
  split
  .rename_i hs
   obtain⟨el,hu,he⟩:=zW1 hs
   intro hb
   obtain⟨xs,rfl⟩:=xq8 hb
   have hr:=zw0 hx
   have ab:(xs.map fun n=> [V.int .u8 n]).map zp7=xs.map fun n:Int=>UInt8.ofNat n.toNat:=by rw[Bk];rfl
   rw[ab]
   refine Yield.pure h (x:= .string ⟨(xs.map fun n:Int=>UInt8.ofNat n.toNat).toArray⟩) ?_ (RdP.str _)
   by_cases h0:xs= []
   .subst h0
    obtain⟨base,cap,hv,_,_⟩:=hr.len
    have aa:(convert t t' (.slice base 0 cap)).run P w= .ok (.string ByteArray.empty) w:=by
     cases base with
     |none=>grind[run_convert_bytes_nil,zL5]
     |some ad=>
      obtain⟨b,off,sp⟩:=ad
      rw[run_convert_bytes_string w t t' el _ 0 cap hu he (zL5 hk),run_bytesToString w _ 0 cap [] (by simp[loadCells,loadCellsFrom])]
      rfl
    simp only[Bx,Dp]at hv
    simp only[execOp,hv,Sem.run_bind,aa,Result.andThen_ok,Sem.run_pure]
    rfl
   .obtain⟨s,b,o',cap,hv,ai,ae,_,_,_,hc⟩:=hr.flat (by simp_all)
    have af:s=1:=by
     obtain⟨n,rest,rfl⟩:=Di h0
     exact(ae [.int .u8 n] sm).symm
    subst af
    have aa:=run_convert_bytes_arg (P:=P) w t el hu he b o' xs.length cap xs rfl (fun i hi=>by
     obtain⟨y,hy,r⟩:=hc i (.int .u8 (xs.getD i 0)) (by
      have:=yP (rows:=xs.map fun n=> [V.int .u8 n]) i 0 ae om
      grind)
     have:y= .int .u8 (xs.getD i 0):=by cases r;rfl
     grind) t' (zL5 hk)
    simp only[B1]at hv
    simp only[execOp,hv,Sem.run_bind,aa,Result.andThen_ok,Sem.run_pure]
    rfl
  trivial
 trivial
def zx6 (fl:Option (Nat×Nat×Bool)) (x:V):R:=
 match fl,x with
 |some (off,s,true),.agg cs=>if off+s<=cs.length then .ok (.agg ((cs.drop off).take s))else .fail
 |some (off,_,false),.agg cs=>(match cs[off]? with|some v=> .ok v|none=> .fail)
 |_,_=> .fail
theorem xD6 {pos:String} (t:TypeId) (x:Operand) (f:Nat) (h:Sim c nt e σ a w L β):
  ROk (zx6 (fldT P t f) (zD e x)) σ (Yield P c ⟨dst,.field t x f,ty,pos,aft,g⟩ a w L σ β):=by
 have hx:=h.eval x
 unfold zx6
 split
 .rename_i off s cs hf h1
  rw[h1]at hx
  split
  .rename_i hle
   obtain⟨xs,hv,aa⟩:=hx
   obtain⟨fs,fd,hu,ab,rfl,hs,hb,h0⟩:=zV6 hf
   have hl:=aa.length
   refine Yield.pure h (x:= .agg ((xs.drop fd.offset).take s).toArray) ?_ ⟨_,rfl,(aa.drop _).take _⟩
   simp_all[execOp,Instr.field,run_underlying,asAgg,part,zk5,wT]
  trivial
 .rename_i off s cs hf h1
  rw[h1]at hx
  split
  .rename_i v ad
   obtain⟨xs,hv,aa⟩:=hx
   obtain⟨fs,fd,hu,ab,rfl,hs,hb,h0⟩:=zV6 hf
   obtain⟨y,hy,r⟩:=aa.get _ _ ad
   refine Yield.pure h (x:=y) ?_ (RdS.of_cell r)
   simp_all[execOp,Instr.field,run_underlying,asAgg,part,zk5]
  trivial
 trivial
def isK (v:V):Bool:=zy4 v||(match v with| .ptr _ _| .elp _ _| .lsv _ _ _ _ _| .lsp _ _ _ _ _| .bsv _ _ _ _| .mp _=>true|_=>false)
theorem wh2 {v:V} {x:Value} (r:RdS w L σ β v x) (h:isK v=true):RdK w L σ β v x:=by
 cases v<;>first|exact r|simp[isK,zy4]at h
def zH3 (fn:Fn) (first:Nat) (caps:List V):R:=
 match fn with
 | .func f=>if first=0/\caps.all isK=true then .ok (.fn f caps)else .fail
 |_=> .fail
theorem xQ5 {pos:String} (fn:Fn) (first caps:Array Operand) (h:Sim c nt e σ a w L β):
  ROk (zH3 fn first.size (caps.toList.map (zD e))) σ (Yield P c ⟨dst,.makeFunc fn first caps,ty,pos,aft,g⟩ a w L σ β):=by
 unfold zH3
 split
 .rename_i f
  split
  .rename_i hc
   obtain⟨h0,hk⟩:=hc
   have hf:first= #[]:=(by grind)
   subst hf
   refine Yield.pure h (x:= .func (.func f) #[] (caps.toList.map a.eval).toArray) (by simp[execOp,Instr.makeFunc];grind) ⟨_,rfl, ?_⟩
   have: ∀l:List Operand,(l.map (zD e)).all isK=true->All2 (RdK w L σ β) (l.map (zD e)) (l.map a.eval):=by
    intro l
    induction l with
    |nil=>intro _;trivial
    |cons p l ih=>
     intro hl
     simp at hl
     exact⟨wh2 (h.eval p) hl.1,(by grind)⟩
   grind
  trivial
 trivial
def zelT (P:Program) (t:TypeId):Option (List V):=
 match P.underlying t with
 |some (.slice el)=>wI P el
 |_=>none
def zD5 (el:Option (Nat×Nat)) (zs:Option (List V)) (σ:St) (l m:V):R:=
 match el,zs,l,m with
 |some (s,by'),some z,.int .i64 n,.int .i64 k=> .needst (0<=n/\n<=k/\k.toNat*by'<=140737488355328) (.sl (.app σ.length) (List.replicate n.toNat z)) (σ++ [.app n.toNat s])
 |_,_,_,_=> .fail
theorem xC0 {z:Array Value} {s N:Nat} (hz:z.size=s) (hs:0<s) (k:Nat) (hk:k<N*s):((Array.range (N*s)).map (z[· %z.size]!))[k]? =some (z.toList[k%s]'(by simp_all[Do])):=by
 grind
theorem yM0 {s ab:Nat} {z:List V} {n k:Int} (ak:elT P t=some (s,ab)) (hz:zelT P t=some z) (h0:0<=n) (hle:n<=k) (hb:k.toNat*ab<=140737488355328) (w:World) (L:Nat->Nat):
  ∃(el:TypeId) (cells:Array Value),(Instr.makeSlice t (.int .i64 n) (.int .i64 k)).run P w= .ok (.slice (some ⟨w.heap.size,0,none⟩) n.toNat k.toNat) (w.alloc (.cells cells el))/\cells.size=k.toNat*s/\0<s/\
   uni s (List.replicate n.toNat z)/\All2 (RdP w L) (List.replicate n.toNat z).flatten (cells.toList.take (n.toNat*s)):=by
 obtain⟨el,i,zz,hu,hi,ad,rfl,rfl,al,hs,an⟩:=zd9 ak
 unfold zelT at hz
 rw[hu]at hz
 obtain⟨i',a7,ae,aa,az,rfl⟩:=zF7 hz
 rw[hi]at ae;cases ae
 rw[ad]at aa;cases aa
 have hk:k.toNat<=140737488355328:=Ax (Nat.le_mul_of_pos_right _ an) hb
 have af:IntKind.i64.wrap n=n:=by grind[IntKind.wrap_i64]
 have ag:IntKind.i64.wrap k=k:=by grind[IntKind.wrap_i64]
 have ao:(i.bytes:Int)*k=((k.toNat*i.bytes:Nat):Int):=by
  grind
 have ah: ¬(281474976710656<(i.bytes:Int)*k):=om
 have q1: ¬k<0:=om
 have q2: ¬n<0:=om
 have q3: ¬k<n:=by omega
 let cells:Array Value:=(Array.range (k.toNat*i.size)).map (zz.cells[· %zz.cells.size]!)
 have a1:(Instr.makeSlice t (.int .i64 n) (.int .i64 k)).run P w= .ok (.slice (some ⟨w.heap.size,0,none⟩) n.toNat k.toNat) (w.alloc (.cells cells el)):=by
  by_cases ai:k.toNat*i.size=0
  .have: ∀f:Nat->Value,(Array.range 0).map f= #[]:=sm
   have aq:cells= #[]:=by grind
   rw[aq]
   simp[Instr.makeSlice,run_underlying hu,asInt,asIntOf,typeInfo,hi,af,ag,ah,q1,q2,q3,sizeOf,ai,newRow,this]
  .simp[Instr.makeSlice,run_underlying hu,asInt,asIntOf,typeInfo,hi,af,ag,ah,q1,q2,q3,sizeOf,ai,newRow,zeroValue,ad,cells]
 have ar:zz.cells.toList.length=i.size:=om
 have au:uni i.size (List.replicate n.toNat (zz.cells.toList.map zc1)):=fun r hr=>by
  grind
 have av:n.toNat<=k.toNat:=om
 have hmul:n.toNat*i.size<=k.toNat*i.size:=Ao _ av
 have hlen:(List.replicate n.toNat (zz.cells.toList.map zc1)).length=n.toNat:=sm
 have a6:All2 (RdP w L) (List.replicate n.toNat (zz.cells.toList.map zc1)).flatten (cells.toList.take (n.toNat*i.size)):=by
  refine All2.of ?_ fun j p x hp hx=> ?_
  .grind[zW]
  .have aw:j<n.toNat*i.size:=by
    grind
   have ax:j/i.size<n.toNat:=by rw[Cw hs];omega
   have aj:j%i.size<i.size:=Do _ hs
   have ay:j=j/i.size*i.size+j%i.size:=by grind[Dv]
   rw[ay,yP _ _ au aj,List.getElem?_replicate,if_pos ax]at hp
   simp only[B3,B2]at hp
   rw[Ai,if_pos aw,Ap]at hx
   have:=xC0 al hs j (show j<k.toNat*i.size by omega)
   simp only[cells]at hx
   rw[this]at hx
   simp only[Option.some.injEq]at hx
   rw[A0 (by rw[ar];exact aj)]at hp
   simp only[B8,Option.some.injEq]at hp
   rw[<-hp,<-hx]
   exact(zv7 _ (by grind)).1
 grind
theorem xQ7 {pos:String} (t:TypeId) (l m:Operand) (h:Sim c nt e σ a w L β):
  ROk (zD5 (elT P t) (zelT P t) σ (zD e l) (zD e m)) σ (Yield P c ⟨dst,.makeSlice t l m,ty,pos,aft,g⟩ a w L σ β):=by
 have hl:=h.eval l
 have hm:=h.eval m
 unfold zD5
 split
 .rename_i s ai z n k ag hz e1 e2
  rw[e1]at hl;rw[e2]at hm
  have e1:=yM hl;have e2:=yM hm
  rintro⟨h0,hle,hb⟩
  obtain⟨el,cells,ah,aj,hs,ad,ae⟩:=yM0 ag hz h0 hle hb w L
  have hlen:(List.replicate n.toNat z).length=n.toNat:=sm
  obtain⟨aa,ab,af⟩:=h.mem.appPush (s:=s) (cap:=k.toNat) (arr:=cells) (T:=el) hs ad ae om om (by grind)
  rw[hlen]at aa af ab
  refine⟨_,_,_,_,(by grind[execOp,Sem.run_bind,Result.andThen_ok,Sem.run_pure]),aa,ab,Ext.push _ _ h.mem.len _ _,af,n.toNat,s,sm,om,fun _=> ?_,ad⟩
  rw[<-h.mem.len];simp
 trivial
def zt5 (el:Option (Nat×Nat)) (zs:Option (List V)) (σ:St) (l m:V):R:=
 match el,zs,l,m with
 |some (s,by'),some z,.int .i64 n,.int .i64 k=> .needst (0<=n/\n<=k/\k.toNat*by'<=140737488355328) (.lsv σ.length s n.toNat 0 n.toNat) (σ++ [.lst (List.replicate n.toNat z) s])
 |_,_,_,_=> .fail
theorem zR9 {w':World} {L':Nat->Nat} {rows:List (List V)} {s cap:Nat} {a0:Option Addr} (hl:β.length=σ.length) (hcap:rows.length<=cap) (ha:0<cap-> ∃b,a0=some ⟨b,0,none⟩):
  RdS w' L' (σ++ [.lst rows s]) (β++ [.slice a0 rows.length cap]) (.lsv σ.length s rows.length 0 rows.length) (.slice a0 rows.length cap):=by
 refine⟨a0,cap,rfl,om,fun hp=> ?_,.inr ⟨rows,sm,om,fun _=>⟨a0,cap, ?_,rfl,om,fun hp=> ?_⟩⟩⟩
 all_goals grind
theorem xD7 {pos:String} (t:TypeId) (l m:Operand) (h:Sim c nt e σ a w L β):
  ROk (zt5 (elT P t) (zelT P t) σ (zD e l) (zD e m)) σ (Yield P c ⟨dst,.makeSlice t l m,ty,pos,aft,g⟩ a w L σ β):=by
 have hl:=h.eval l
 have hm:=h.eval m
 unfold zt5
 split
 .rename_i s aj z n k ag hz e1 e2
  rw[e1]at hl;rw[e2]at hm
  have e1:=yM hl;have e2:=yM hm
  rintro⟨h0,hle,hb⟩
  obtain⟨el,cells,ai,ak,hs,ah,ad⟩:=yM0 ag hz h0 hle hb w L
  have hlen:(List.replicate n.toNat z).length=n.toNat:=sm
  obtain⟨aa,ae,ab⟩:=h.mem.lstPush (s:=s) (cap:=k.toNat) (arr:=cells) (T:=el) hs ah (by rw[hlen];exact ad.imp fun _ _=>RdC.of_pure) om om
  have af:=zR9 (w':=w.alloc (.cells cells el)) (L':=L) (s:=s) (rows:=List.replicate n.toNat z) (cap:=k.toNat) (a0:=some ⟨w.heap.size,0,none⟩) h.mem.len om sm
  rw[hlen]at aa ab af
  exact⟨_,_,_,_,(by grind[execOp,Sem.run_bind,Result.andThen_ok,Sem.run_pure]),aa,ae,ab,af⟩
 trivial
theorem xP8 (h:Mem c w L σ β) {id s p:Nat} {rows r2:List (List V)} {ad:Option Addr} {lo n m cap:Nat} {x:Value} (hσ:σ[id]? =some (.lst rows s)) (hx:RdS w L σ β (.lsv id s n lo m) x) (hv:x= .slice ad m cap) (hn:rows.length=n) (ab:uni s r2)
  {news:List Value} (ae:All2 (RdC w L σ β) r2.flatten news) (af: ∀u∈news,u.oneCell'=true) (hp:p=lo) (hk:r2.length<=m) (ax:lo+m<=n) (aq:0<r2.length):
  ∃a0 w',ad=some a0/\(storeCells a0 news 0).run P w= .ok () w'/\Mem c w' L (σ.set id (.lst (rows.take p++r2++rows.drop (p+r2.length)) s)) β/\Le w L w' L/\Ext σ β (σ.set id (.lst (rows.take p++r2++rows.drop (p+r2.length)) s)) β:=by
 subst hp
 obtain⟨ay,ar,e0,az,_,hc⟩:=hx
 rw[hv]at e0;cases e0
 rcases hc with hd|⟨rows2,ag,a1,hb⟩
 .grind
 .rw[hσ]at ag;cases ag
  obtain⟨b0,c0,hβ,a6,a7,aa⟩:=hb hn.symm
  have al:p<c0:=om
  obtain⟨k0,rfl,rfl⟩:=aa al
  clear hb aa
  obtain⟨a2,au,e1,av,a8,an,_⟩:=h.objs id _ _ hσ hβ
  cases e1
  have ao:(rows.take p++r2++rows.drop (p+r2.length)).length=rows.length:=by grind
  have ah:p*s<=rows.length*s:=Ao _ om
  obtain⟨arr,T,fz,hh,hf,aw,ai,hle,aj⟩:=h.lstPut (off:=p*s) (vs:=r2.flatten) (rows2:=rows.take p++r2++rows.drop (p+r2.length)) hσ hβ om
   ae ah (fun r hr=>by
    rcases Av.1 hr with hr|hr
    .rcases Av.1 hr with hr|hr
     .grind
     .exact ab r hr
    grind) (yk4 an ab om) om om
  have ak:β.set id (.slice (some ⟨k0,0,none⟩) (rows.take p++r2++rows.drop (p+r2.length)).length c0)=β:=(by grind[yK])
  rw[ak]at ai aj
  have aA:=xJ P k0 (p*s) T fz news 0 arr w hh hf om af
  grind
def zt4 (sl:Option Nat) (zs:Option (List V)) (σ:St) (x:V):R:=
 match zs,x with
 |some z,.lsv id s n lo m=>(match σ[id]? with
  |some (.lst rows s')=> .needst (sl=some s/\s'=s/\rows.length=n/\lo+m<=n) (.tup []) (σ.set id (.lst (rows.take lo++List.replicate m z++rows.drop (lo+m)) s))
  |_=> .fail)
 |_,_=> .fail
theorem xD3 {pos:String} (t:TypeId) (x:Operand) (h:Sim c nt e σ a w L β):
  ROk (zt4 ((elT P t).map (·.1)) (zelT P t) σ (zD e x)) σ (Yield P c ⟨dst,.call ⟨.builtin .clear, #[x], #[t]⟩,ty,pos,aft,g⟩ a w L σ β):=by
 have hx:=h.eval x
 unfold zt4
 split
 .rename_i z id s n lo m hz h1
  rw[h1]at hx
  split
  .rename_i rows s' hσ
   rintro⟨a7,rfl,hn,ak⟩
   obtain⟨a8,al⟩: ∃b,elT P t=some (s',b):=by
    simp_all
   obtain⟨el,i,zz,hu,hi,an,rfl,rfl,ag,hs,aA⟩:=zd9 al
   unfold zelT at hz
   rw[hu]at hz
   obtain⟨i',aB,ah,ab,a1,rfl⟩:=zF7 hz
   rw[hi]at ah;cases ah
   rw[an]at ab;cases ab
   have ao:=hx
   obtain⟨ad,cap,hv,aC,a6,_⟩:=ao
   by_cases aq:m=0
   .subst aq
    have ai:σ.set id (.lst (rows.take lo++List.replicate 0 (zz.cells.toList.map zc1)++rows.drop (lo+0)) i.size)=σ:=(by simp_all[yK])
    rw[ai]
    refine⟨.tuple #[],w,L,β,.inl ?_,h.mem,Le.refl _ _,Ext.refl _ _,[],rfl,tV⟩
    cases ad<;>simp[execOp,resolve,invoke,builtin,Builtin.clear_,run_underlying hu,hv]
   .have aa:All2 (RdC w L σ β) (List.replicate m (zz.cells.toList.map zc1)).flatten (Builtin.zeroCells zz.cells m).toList:=by
     have ar:uni i.size (List.replicate m (zz.cells.toList.map zc1)):=fun r hr=>by
      grind
     refine All2.of ?_ fun j p x hp hx=> ?_
     .simp[size_zeroCells]
     .have au:j<m*i.size:=by
       have:=(A3.1 hp).1
       simp_all
      have av:j/i.size<m:=by simp_all[Cw]
      have aj:j%i.size<i.size:=Do _ hs
      have aw:j=j/i.size*i.size+j%i.size:=by grind[Dv]
      rw[aw,yP _ _ ar aj,List.getElem?_replicate,if_pos av]at hp
      simp only[B3,B2]at hp
      have:=xC0 ag hs j au
      rw[Ap]at hx
      unfold Builtin.zeroCells at hx
      rw[ag]at hx this
      rw[this]at hx
      simp only[Option.some.injEq]at hx
      rw[A0 (by simpa[ag]using aj)]at hp
      simp only[B8,Option.some.injEq]at hp
      rw[<-hp,<-hx]
      exact RdC.of_pure (zv7 _ (by grind)).1
    have ax:(List.replicate m (zz.cells.toList.map zc1)).length=m:=sm
    obtain⟨a0,w',rfl,aD,ae,hle,af⟩:=xP8 (P:=P) h.mem (p:=lo) hσ hx hv hn (r2:=List.replicate m (zz.cells.toList.map zc1)) (fun r hr=>by
     grind) aa (fun u ay=>by
      obtain⟨k,hk⟩:=Aq.1 ay
      have az:k<(List.replicate m (zz.cells.toList.map zc1)).flatten.length:=by rw[aa.length];grind
      obtain⟨q,hq,rq⟩:=aa.get k _ (A0 az)
      rw[hk]at hq;cases hq
      exact rq.oneCell) rfl om ak om
    rw[ax]at ae af
    obtain⟨m',rfl⟩: ∃m',m=m'+1:=(by simp;omega)
    refine⟨.tuple #[],w',L,β,.inl ?_,ae,hle,af,[],rfl,tV⟩
    simp_all[execOp,resolve,invoke,builtin,Builtin.clear_,run_underlying,zeroValue,typeInfo]
  trivial
 trivial
def wU (es:Option Nat) (len:Nat) (σ:St) (parts:List (Nat×V)):R:=
 match es with
 |some s=>if zn0 0 parts=true/\parts.length=len then .needst ((∀p∈parts,(xI p.2).length=s)/\len*s<=16777216/\0<s) (.lsv σ.length s len 0 len) (σ++ [.lst (parts.map fun p=>xI p.2) s])else .fail
 |none=> .fail
theorem yi4 {pos:String} (t:TypeId) (len:Nat) (ps:Array (Nat×Operand)) (h:Sim c nt e σ a w L β):
  ROk (wU ((elT P t).map (·.1)) len σ (ps.toList.map fun p=>(p.1,zD e p.2))) σ (Yield P c ⟨dst,.buildSlice t len ps,ty,pos,aft,g⟩ a w L σ β):=by
 unfold wU
 split
 .rename_i s ar
  split
  .rename_i af
   obtain⟨ho,hlen⟩:=af
   rintro⟨hp,au,hs⟩
   obtain⟨el,al⟩: ∃b,elT P t=some (s,b):=by
    simp_all
   obtain⟨el,i,z,hu,hi,hz,rfl,_,av,_,_⟩:=zd9 al
   have ab:=All2.of_parts h ps.toList
   have ag: ∀aa,Instr.fill (fun k=>some (k*i.size,i.size)) ((Array.range (len*i.size)).map (z.cells[· %z.cells.size]!)) (ps.map fun(k,x)=>(k,a.eval x)).toList=some aa->
     (Instr.buildSlice t len (ps.map fun(k,x)=>(k,a.eval x))).run P w= .ok (.slice (some ⟨w.heap.size,0,none⟩) len len) (w.alloc (.cells aa el)):=by
    intro aa hf
    by_cases h0:len*i.size=0
    .have aw:len=0:=by
      rcases Nat.mul_eq_zero.1 h0 with h|h
      all_goals omega
     simp_all[Array.eq_empty_of_size_eq_zero,Instr.buildSlice,run_underlying,sizeOf,typeInfo,newRow]
    grind[run_buildSlice]
   have ah:(ps.map fun(k,x)=>(k,a.eval x)).toList=ps.toList.map fun p=>(p.1,a.eval p.2):=sm
   obtain⟨aa,hf,ax,ai⟩:=yf7 (s:=i.size) _ _ 0 ((Array.range (len*i.size)).map (z.cells[· %z.cells.size]!)) [] ho hp ab (by grind) sm (by simp[All2])
   rw[<-ah]at hf
   have hr:=ag aa hf
   have an:((ps.toList.map fun p=>(p.1,zD e p.2)).map fun p=>xI p.2).length=len:=by grind
   have ao:uni i.size ((ps.toList.map fun p=>(p.1,zD e p.2)).map fun p=>xI p.2):=fun r hr=>by
    grind
   simp only[Cs]at ai
   have aq:aa.size=len*i.size:=by grind
   obtain⟨ad,aj,ae⟩:=h.mem.lstPush (s:=i.size) (cap:=len) (arr:=aa) (T:=el) hs ao (by grind[Al]) om om
   have ak:=zR9 (w':=w.alloc (.cells aa el)) (L':=L) (s:=i.size) (rows:=(ps.toList.map fun p=>(p.1,zD e p.2)).map fun p=>xI p.2) (cap:=len) (a0:=some ⟨w.heap.size,0,none⟩) h.mem.len om sm
   rw[an]at ad ae ak
   exact⟨_,_,_,_,(by simp_all[execOp]),ad,aj,ae,ak⟩
  trivial
 trivial
def zx5 (ks kd:Option Kd) (σ:St) (x:V):R:=
 match kd,x with
 |some .bytes,.str s=>if ks=some .str then .st (.lsv σ.length 1 s.length 0 s.length) (σ++ [.lst (zP s) 1])else .fail
 |_,_=> .fail
theorem xD4 {pos:String} (t t':TypeId) (x:Operand) (h:Sim c nt e σ a w L β):
  ROk (zx5 (kdT P t) (kdT P t') σ (zD e x)) σ (Yield P c ⟨dst,.convert t t' x,ty,pos,aft,g⟩ a w L σ β):=by
 have hx:=h.eval x
 unfold zx5
 split
 .rename_i s hk h1
  rw[h1]at hx
  split
  .rename_i hs
   obtain⟨el,hu,he⟩:=zW1 hk
   have hr:=run_bytes_of_string (P:=P) w t t' el ⟨s.toArray⟩ (zL5 hs) hu he
   have hd:=h.mem.drew
   have ag:=grownCap_ge w (ByteArray.mk s.toArray).size 0 el
   generalize hcap:grownCap w (ByteArray.mk s.toArray).size 0 el=cap at hr ag
   have ah:s.length<=cap:=by simpa
   generalize ai:bytesRow ⟨s.toArray⟩ cap=arr at hr
   have aj:arr.size=cap:=by grind[bytesRow,zu0]
   have hl:(zP s).length=s.length:=by simp[zP]
   have ad:All2 (RdC w.drew L σ β) (zP s).flatten (arr.toList.take ((zP s).length*1)):=by
    have hb:arr.toList.take ((zP s).length*1)=byteCells ⟨s.toArray⟩:=by
     grind[bytesRow,byteCells]
    rw[hb]
    exact(zp6 s).imp fun _ _=>RdC.of_pure
   obtain⟨aa,ae,ab⟩:=hd.1.lstPushF (s:=1) (cap:=cap) (arr:=arr) (T:=el) (fz:=(arr.size,arr.size+1)) ⟨fun o ho q=>om,.inl rfl⟩ om (zQ3 s) ad om om
   have af:=zR9 (w':=w.drew.alloc (.cells arr el (arr.size,arr.size+1))) (L':=L) (s:=1) (rows:=zP s) (cap:=cap) (a0:=some ⟨w.drew.heap.size,0,none⟩) h.mem.len om sm
   rw[hl]at aa ab af
   refine⟨_,_,_,_,.inl ?_,aa,hd.2.trans ae,ab,af⟩
   simp only[execOp,wV hx,Sem.run_bind,hr,Result.andThen_ok,Sem.run_pure]
   rfl
  trivial
 trivial
end
end Go.Vx
