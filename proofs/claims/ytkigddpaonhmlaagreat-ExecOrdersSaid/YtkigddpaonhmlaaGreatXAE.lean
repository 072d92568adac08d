/-
  Operations over trees: literals, slices of slices and strings, conversions, fields, function values.
  No condition: a library text; nothing of the program is named.
-/
import Derived.Test.YtkigddpaonhmlaaGreatXAD
set_option maxHeartbeats 8000000
namespace Go.Vx
open Go
section
variable {P:Program} {c:Ctx} {nt:Nat} {e:Env} {σ:St} {a:Act} {w:World} {L:Nat->Nat} {β:List Value} {o:Oper}
theorem zO4 (arr:Array Value) (k:Nat): ∀(vs:List Value) (j:Nat) (cur:Array Value),(vs.zipIdx j).foldl (fun cs (p:Value×Nat)=>cs.setIfInBounds (k+p.2) p.1) cur=xF cur (k+j) vs
 | [],_,_=>rfl
 |v::vs,j,cur=>by
  rw[List.zipIdx_cons,Be,zO4 arr k vs (j+1)]
  rfl
theorem zI9 {pl:Nat->Option (Nat×Nat)} {arr:Array Value} {i off s:Nat} {v:Value} {rest:List (Nat×Value)} (hp:pl i=some (off,s)) (hs:v.cells.size=s) (hle:off+s<=arr.size):
  Instr.fill pl arr ((i,v)::rest)=Instr.fill pl (xF arr off v.cells.toList) rest:=by
 rw[Instr.fill]
 simp only[hp]
 have h1:(v.cells.size≠s||decide (off+v.cells.size>arr.size))=false:=by simp[hs];exact hle
 rw[if_neg (by simp[hs];omega)]
 congr 1
 rw[<-Array.foldl_toList,Array.toList_zipIdx]
 exact zO4 arr off v.cells.toList 0 arr
def zm3:Nat->List (Nat×V)->Bool
 |_,[]=>true
 |k,(i,v)::r=>i==k&&wC v&&zm3 (k+1) r
def zL0 (v:V):Bool:=(xD v).all zg3
def zE7 (v:V):List V:=(xD v).map dem
def za7 (es:Option Nat) (len:Nat) (parts:List (Nat×V)):R:=
 match es with
 |some s=>if zm3 0 parts=true/\parts.length=len then .need ((∀p∈parts,zL0 p.2=true/\(xD p.2).length=s)/\len*s<=16777216/\0<s) (.sl .full (parts.map fun p=>zE7 p.2))else .fail
 |none=> .fail
theorem All2.map_left {α β γ:Type} {R:γ->β->Prop} {f:α->γ}: ∀{l:List α} {m:List β},All2 (fun x y=>R (f x) y) l m->All2 R (l.map f) m
 | [],[],_=>trivial
 |_::_,_::_,h=>⟨h.1,All2.map_left h.2⟩
 | [],_::_,h=>h.elim
 |_::_,[],h=>h.elim
theorem xC9 {v:V} {x:Value} (r:All2 (RdC w L σ β) (xD v) x.cells.toList) (hp:zL0 v=true):All2 (RdP w L) (zE7 v) x.cells.toList:=by
 unfold zL0 at hp
 unfold zE7
 refine All2.map_left ?_
 revert r hp
 generalize xD v=cs
 generalize x.cells.toList=xs
 intro r hp
 induction cs generalizing xs with
 |nil=>cases xs with
  |nil=>trivial
  |cons y ys=>exact r.elim
 |cons p cs ih=>cases xs with
  |nil=>exact r.elim
  |cons y ys=>
   simp at hp
   exact⟨RdC.dem r.1 hp.1,ih _ r.2 (by simpa using hp.2)⟩
theorem yo1 {s:Nat}: ∀(parts:List (Nat×V)) (vals:List (Nat×Value)) (k:Nat) (arr:Array Value) (done:List V),zm3 k parts=true->(∀p∈parts,zL0 p.2=true/\(xD p.2).length=s)->
  All2 (fun p q=>p.1=q.1/\RdS w L σ β p.2 q.2) parts vals->arr.size=(k+parts.length)*s->done.length=k*s->All2 (RdP w L) done (arr.toList.take (k*s))->
  ∃arr',Instr.fill (fun i=>some (i*s,s)) arr vals=some arr'/\arr'.size=arr.size/\All2 (RdP w L) (done++(parts.map fun p=>zE7 p.2).flatten) arr'.toList
 | [],[],k,arr,done,_,_,_,hsz,hd,hall=>by
  refine⟨arr,rfl,rfl, ?_⟩
  simp at hsz
  rw[Au (by simp;omega)]at hall
  simpa using hall
 |(i,v)::parts,(i',x)::vals,k,arr,done,ho,hp,⟨⟨hi,hr⟩,hrest⟩,hsz,hd,hall=>by
  simp only[zm3,A4,beq_iff_eq]at ho
  obtain⟨⟨rfl,hhas⟩,ho⟩:=ho
  have hpi:=hp (i,v) (by simp)
  simp only at hi hpi
  subst hi
  have hcells:=zo2 hr hhas
  have hlen:=hcells.length
  simp only[Bz]at hlen
  have hxs:x.cells.size=s:=by rw[<-hlen];exact hpi.2
  simp only[Ah]at hsz
  have hm:(i+(parts.length+1))*s=i*s+s+parts.length*s:=by rw[An,An,Bj];omega
  have hm2:(i+1)*s=i*s+s:=by rw[An,Bj]
  rw[zI9 (s:=s) rfl hxs (by omega)]
  have hrow:=xC9 hcells hpi.1
  have hrl:(zE7 v).length=s:=by simp[zE7,hpi.2]
  obtain⟨arr',h1,h2,h3⟩:=yo1 parts vals (i+1) (xF arr (i*s) x.cells.toList) (done++zE7 v) ho (fun p hp'=>hp p (by simp[hp'])) hrest (by rw[xG,hsz];congr 1;omega) (by simp[hd,hrl,hm2]) (by
   have hfit:i*s+x.cells.toList.length<=arr.size:=by simp;omega
   have e1:(xF arr (i*s) x.cells.toList).toList.take ((i+1)*s)=arr.toList.take (i*s)++x.cells.toList:=by
    apply C4
    intro j
    rw[Ae]
    have hfl:(List.take (i*s) arr.toList).length=i*s:=by simp;omega
    by_cases hj:j<(i+1)*s
    .rw[if_pos hj,Aj,ze7 _ _ _ _ hfit]
     simp only[Bz]
     by_cases hj2:j<i*s
     .rw[if_neg (by omega),Ab (by omega),Ae,if_pos hj2,Aj]
     .rw[if_pos (by omega),Ai (by omega),hfl]
    .rw[if_neg hj,Bc (by simp[hxs];omega)]
   rw[e1]
   exact hall.append hrow)
  refine⟨arr',h1,by rw[h2,xG], ?_⟩
  rw[Al,C9,<-C5]
  exact h3
 | [],_::_,_,_,_,_,_,h,_,_,_=>h.elim
 |_::_,[],_,_,_,_,_,h,_,_,_=>h.elim
theorem ye1 {s:Nat}: ∀(parts:List (Nat×V)) (vals:List (Nat×Value)) (k:Nat) (arr:Array Value) (done:List V),zm3 k parts=true->(∀p∈parts,(xD p.2).length=s)->
  All2 (fun p q=>p.1=q.1/\RdS w L σ β p.2 q.2) parts vals->arr.size=(k+parts.length)*s->done.length=k*s->All2 (RdC w L σ β) done (arr.toList.take (k*s))->
  ∃arr',Instr.fill (fun i=>some (i*s,s)) arr vals=some arr'/\arr'.size=arr.size/\All2 (RdC w L σ β) (done++(parts.map fun p=>xD p.2).flatten) arr'.toList
 | [],[],k,arr,done,_,_,_,hsz,hd,hall=>by
  refine⟨arr,rfl,rfl, ?_⟩
  simp at hsz
  rw[Au (by simp;omega)]at hall
  simpa using hall
 |(i,v)::parts,(i',x)::vals,k,arr,done,ho,hp,⟨⟨hi,hr⟩,hrest⟩,hsz,hd,hall=>by
  simp only[zm3,A4,beq_iff_eq]at ho
  obtain⟨⟨rfl,hhas⟩,ho⟩:=ho
  have hpi:=hp (i,v) (by simp)
  simp only at hi hpi
  subst hi
  have hcells:=zo2 hr hhas
  have hlen:=hcells.length
  simp only[Bz]at hlen
  have hxs:x.cells.size=s:=by rw[<-hlen];exact hpi
  simp only[Ah]at hsz
  have hm:(i+(parts.length+1))*s=i*s+s+parts.length*s:=by rw[An,An,Bj];omega
  have hm2:(i+1)*s=i*s+s:=by rw[An,Bj]
  rw[zI9 (s:=s) rfl hxs (by omega)]
  have hrow:=hcells
  have hrl:(xD v).length=s:=hpi
  obtain⟨arr',h1,h2,h3⟩:=ye1 parts vals (i+1) (xF arr (i*s) x.cells.toList) (done++xD v) ho (fun p hp'=>hp p (by simp[hp'])) hrest (by rw[xG,hsz];congr 1;omega) (by simp[hd,hrl,hm2]) (by
   have hfit:i*s+x.cells.toList.length<=arr.size:=by simp;omega
   have e1:(xF arr (i*s) x.cells.toList).toList.take ((i+1)*s)=arr.toList.take (i*s)++x.cells.toList:=by
    apply C4
    intro j
    rw[Ae]
    have hfl:(List.take (i*s) arr.toList).length=i*s:=by simp;omega
    by_cases hj:j<(i+1)*s
    .rw[if_pos hj,Aj,ze7 _ _ _ _ hfit]
     simp only[Bz]
     by_cases hj2:j<i*s
     .rw[if_neg (by omega),Ab (by omega),Ae,if_pos hj2,Aj]
     .rw[if_pos (by omega),Ai (by omega),hfl]
    .rw[if_neg hj,Bc (by simp[hxs];omega)]
   rw[e1]
   exact hall.append hrow)
  refine⟨arr',h1,by rw[h2,xG], ?_⟩
  rw[Al,C9,<-C5]
  exact h3
 | [],_::_,_,_,_,_,_,h,_,_,_=>h.elim
 |_::_,[],_,_,_,_,_,h,_,_,_=>h.elim
theorem All2.of_parts (h:Sim c nt e σ a w L β): ∀(ps:List (Nat×Operand)),All2 (fun p q=>p.1=q.1/\RdS w L σ β p.2 q.2) (ps.map fun p=>(p.1,zF e p.2)) (ps.map fun p=>(p.1,a.eval p.2))
 | []=>trivial
 |p::ps=>⟨⟨rfl,h.eval p.2⟩,All2.of_parts h ps⟩
theorem yl8 {dst:Option Tmp} {ty:TypeId} {pos:String} {aft:Array Edge} {g:Option (Nat×Bool)} (t:TypeId) (len:Nat) (ps:Array (Nat×Operand)) (h:Sim c nt e σ a w L β):
  ROk (za7 ((elT P t).map (·.1)) len (ps.toList.map fun p=>(p.1,zF e p.2))) σ (Yield P c ⟨dst,.buildSlice t len ps,ty,pos,aft,g⟩ a w L σ β):=by
 unfold za7
 split
 .rename_i s hes
  split
  .rename_i hord
   obtain⟨ho,hlen⟩:=hord
   rintro⟨hp,hsm,hs⟩
   obtain⟨el,hel⟩: ∃b,elT P t=some (s,b):=by
    cases hq:elT P t with
    |none=>simp[hq]at hes
    |some q=>obtain⟨q1,q2⟩:=q;simp[hq]at hes;subst hes;exact⟨q2,rfl⟩
   obtain⟨el,i,z,hu,hi,hz,rfl,_,hzs,_,_⟩:=zd8 hel
   have hparts:=All2.of_parts h ps.toList
   have hrun: ∀arr',Instr.fill (fun k=>some (k*i.size,i.size)) ((Array.range (len*i.size)).map (z.cells[· %z.cells.size]!)) (ps.map fun(k,x)=>(k,a.eval x)).toList=some arr'->
     (Instr.buildSlice t len (ps.map fun(k,x)=>(k,a.eval x))).run P w= .ok (.slice (some ⟨w.heap.size,0,none⟩) len len) (w.alloc (.cells arr' el)):=by
    intro arr' hf
    by_cases h0:len*i.size=0
    .have hzl:len=0:=by
      rcases Nat.mul_eq_zero.1 h0 with h|h
      .exact h
      .omega
     subst hzl
     simp at hlen
     subst hlen
     simp[Instr.fill]at hf
     subst hf
     have hr0: ∀f:Nat->Value,(Array.range 0).map f= #[]:=fun f=>by apply D6;simp
     simp[Instr.buildSlice,run_underlying hu,sizeOf,typeInfo,hi,Instr.fill,newRow,hr0]
    .exact run_buildSlice w t el len _ arr' i z hu hi hz (by omega) h0 hf
   have hmap:(ps.map fun(k,x)=>(k,a.eval x)).toList=ps.toList.map fun p=>(p.1,a.eval p.2):=by simp
   obtain⟨arr',hf,hsz,hall⟩:=yo1 (s:=i.size) _ _ 0 ((Array.range (len*i.size)).map (z.cells[· %z.cells.size]!)) [] ho hp hparts (by simp at hlen⊢;rw[hlen]) (by simp) (by simp[All2])
   rw[<-hmap]at hf
   have hr:=hrun arr' hf
   have hl2:((ps.toList.map fun p=>(p.1,zF e p.2)).map fun p=>zE7 p.2).length=len:=by rw[Aq,hlen]
   obtain⟨h1,h2⟩:=h.mem.alloc (.cells arr' el) (len*i.size)
   refine⟨.slice (some ⟨w.heap.size,0,none⟩) len len,_,_,β,.inl (by simp[execOp,hr]),h1,h2,Ext.refl _ _, ?_⟩
   have hres:RdP (w.alloc (.cells arr' el)) (yY L w.heap.size (len*i.size)) (.sl .full ((ps.toList.map fun p=>(p.1,zF e p.2)).map fun p=>zE7 p.2)) (.slice (some ⟨w.heap.size,0,none⟩) ((ps.toList.map fun p=>(p.1,zF e p.2)).map fun p=>zE7 p.2).length len):=by
    refine .of_row (xs:=arr'.toList) hs (fun r hr=> ?_) (by rw[hl2];simp[yY]) (by omega) (fun _=>by simp) (fun _=>hl2.symm) (yH _ _) (fun k x hk=>by rw[Aa];simpa using hk) ?_
    .obtain⟨p,hp',rfl⟩:=Ac.1 hr
     simp only[zE7,Aq]
     exact(hp p hp').2
    .simp only[Ce]at hall
     exact hall.imp fun _ _=>RdP.mono h2
   rw[hl2]at hres
   exact hres
  .trivial
 .trivial
def plcT (P:Program) (t:TypeId):Option (List (Nat×Nat)):=
 match P.underlying t with
 |some (.struct fs)=>fs.toList.mapM fun f=>(P.info? f.type).map fun i=>(f.offset,i.size)
 |some (.array n el)=>(P.info? el).map fun i=>(List.range n).map fun k=>(k*i.size,i.size)
 |_=>none
def ys3 (pl:List (Nat×Nat)) (cells:List V):List (Nat×V)->Option (List V)
 | []=>some cells
 |(i,v)::r=>(match pl[i]? with
  |some (off,s)=>if wC v=true/\(xD v).length=s/\off+s<=cells.length then ys3 pl (putCells cells off (xD v)) r else none
  |none=>none)
def zw2 (zs:Option (List V)) (pl:Option (List (Nat×Nat))) (parts:List (Nat×V)):R:=
 match zs,pl with
 |some z,some pl=>(match ys3 pl z parts with|some cs=> .ok (.agg cs)|none=> .fail)
 |_,_=> .fail
theorem yj5 {pl:List (Nat×Nat)} {pl':Nat->Option (Nat×Nat)} (hpl: ∀i x,pl[i]? =some x->pl' i=some x): ∀(parts:List (Nat×V)) (vals:List (Nat×Value)) (cells cs:List V) (arr:Array Value),ys3 pl cells parts=some cs->
  All2 (fun p q=>p.1=q.1/\RdS w L σ β p.2 q.2) parts vals->All2 (RdC w L σ β) cells arr.toList-> ∃arr',Instr.fill pl' arr vals=some arr'/\All2 (RdC w L σ β) cs arr'.toList
 | [],[],cells,cs,arr,h,_,hall=>by simp[ys3]at h;subst h;exact⟨arr,rfl,hall⟩
 |(i,v)::parts,(i',x)::vals,cells,cs,arr,h,⟨⟨hi,hr⟩,hrest⟩,hall=>by
  simp only at hi
  subst hi
  rw[ys3]at h
  split at h
  .rename_i off s hp
   split at h
   .rename_i hc
    have hcells:=zo2 hr hc.1
    have hl:=hcells.length
    have hl2:=hall.length
    simp only[Bz]at hl hl2
    rw[zI9 (s:=s) (hpl _ _ hp) (by rw[<-hl];exact hc.2.1) (by omega)]
    exact yj5 hpl parts vals _ cs _ h hrest (zU6 hall hcells (by omega))
   .cases h
  .cases h
 | [],_::_,_,_,_,_,h,_=>h.elim
 |_::_,[],_,_,_,_,h,_=>h.elim
theorem xt6 {dst:Option Tmp} {ty:TypeId} {pos:String} {aft:Array Edge} {g:Option (Nat×Bool)} (t:TypeId) (ps:Array (Nat×Operand)) (h:Sim c nt e σ a w L β):
  ROk (zw2 (za1 P t) (plcT P t) (ps.toList.map fun p=>(p.1,zF e p.2))) σ (Yield P c ⟨dst,.build t ps,ty,pos,aft,g⟩ a w L σ β):=by
 unfold zw2
 split
 .rename_i z pl hz hpl
  split
  .rename_i cs hf
   obtain⟨i,zv,hi,hzv,hone,rfl⟩:=zE0 hz
   have hparts:=All2.of_parts h ps.toList
   have hzall:All2 (RdC w L σ β) (zv.cells.toList.map zc1) zv.cells.toList:=(zU5 hone).imp fun _ _=>RdC.of_pure
   have hmap:(ps.map fun(k,x)=>(k,a.eval x)).toList=ps.toList.map fun p=>(p.1,a.eval p.2):=by simp
   have hbuilt: ∃arr',P.built t (ps.map fun(k,x)=>(k,a.eval x)).toList=some arr'/\All2 (RdC w L σ β) cs arr'.toList:=by
    unfold plcT at hpl
    unfold Program.built
    rw[hi,hmap]
    split at hpl
    .rename_i fs hu
     simp only[hu,hzv,hpl]
     exact yj5 (fun k x hk=>by simpa using hk) _ _ _ _ _ hf hparts hzall
    .rename_i n el hu
     cases hie:P.info? el with
     |none=>simp[hie]at hpl
     |some ie=>
      simp only[hie,B3,Option.some.injEq]at hpl
      subst hpl
      simp only[hu,hzv,hie]
      refine yj5 (fun k x hk=> ?_) _ _ _ _ _ hf hparts hzall
      rw[Az]at hk
      cases hr:(List.range n)[k]? with
      |none=>simp[hr]at hk
      |some q=>
       have hq:=(A1.1 hr)
       obtain⟨_,hq2⟩:=hq
       simp at hq2
       simp[hr]at hk
       rw[<-hk,<-hq2]
    .cases hpl
   obtain⟨arr',hb,hall⟩:=hbuilt
   refine Yield.pure h (x:= .agg arr') ?_ ⟨arr'.toList,by simp,hall⟩
   have:=run_build (P:=P) w t _ arr' hb
   simp[execOp,this]
  .trivial
 .trivial
def bnd (v:Option V) (d:Int):Option Int:=
 match v with
 |none=>some d
 |some (.int _ n)=>some n
 |some _=>none
def zm2 (ar:Option (Nat×Nat×Bool)) (k:Nat) (es:Option Nat) (x:V) (lo hi:Option V):R:=
 match x with
 | .lsv id s n l0 m=>(match bnd lo 0,bnd hi m,es with
  |some l,some h,some z=>if k=2 then .need (0<=l/\l<=h/\(h<=m∨(l0:Int)+h<=n)/\z=s) (.lsv id s n (l0+l.toNat) (h - l).toNat)else .fail
  |_,_,_=> .fail)
 | .ptr id off=>(match lo,hi,ar with
  |none,none,some (n,s,_)=> .ok (.bsv id s off n)
  |_,_,_=> .fail)
 | .str s=>(match bnd lo 0,bnd hi s.length with
  |some l,some h=>if k=1 then .need (0<=l/\l<=h/\h<=s.length) (.str ((s.take h.toNat).drop l.toNat))else .fail
  |_,_=> .fail)
 | .sl _ rows=>(match bnd lo 0,bnd hi rows.length,es with
  |some l,some h,some z=>if k=2 then .need (0<=l/\l<=h/\h<=rows.length/\uni z rows) (.sl .ro ((rows.take h.toNat).drop l.toNat))else .fail
  |_,_,_=> .fail)
 |_=> .fail
theorem zf8 {v:Value} {k:IntKind} {i:Int} {y:Nat} {code:BoundsCode} (hv:v= .int k i) (h0:0<=i) (hy:i<=y) (w:World):(Instr.sliceBound v y code).run P w= .ok i.toNat w:=by
 subst hv
 simp[Instr.sliceBound,asIntOf,h0,hy]
theorem xm0 {x:Option Operand} {d n:Int} (hb:bnd (x.map (zF e)) d=some n) (h:Sim c nt e σ a w L β):(x=none/\n=d)∨ ∃p k,x=some p/\a.eval p= .int k n:=by
 unfold bnd at hb
 split at hb
 .rename_i hx
  cases x with
  |none=>simp at hb;exact .inl ⟨rfl,hb.symm⟩
  |some p=>simp at hx
 .rename_i k m hx
  cases x with
  |none=>simp at hx
  |some p=>
   simp at hx hb
   subst hb
   exact .inr ⟨p,k,rfl,yI (hx▸h.eval p)⟩
 .cases hb
theorem zD4 {isS:Bool} {len cap l hh:Nat} {lo hi:Option Value} (hlo:(lo=none/\l=0)∨ ∃k,lo=some (.int k l)) (hhi:(hi=none/\hh=len)∨ ∃k,hi=some (.int k hh)) (h1:l<=hh) (h2:hh<=cap) (w:World):
  (Instr.sliceBounds isS len cap lo hi none).run P w= .ok (l,hh,cap) w:=by
 rcases hlo with ⟨rfl,rfl⟩|⟨k,rfl⟩<;>rcases hhi with ⟨rfl,rfl⟩|⟨k',rfl⟩
 .simp[Instr.sliceBounds]
 .have:=fun code=>zf8 (P:=P) (code:=code) (v:= .int k' hh) (y:=cap) rfl (Int.natCast_nonneg _) (by omega) w
  simp[Instr.sliceBounds,this]
 .have:=fun code=>zf8 (P:=P) (code:=code) (v:= .int k l) (y:=hh) rfl (Int.natCast_nonneg _) (by omega) w
  simp[Instr.sliceBounds,this]
 .have e1:=fun code=>zf8 (P:=P) (code:=code) (v:= .int k l) (y:=hh) rfl (Int.natCast_nonneg _) (by omega) w
  have e2:=fun code=>zf8 (P:=P) (code:=code) (v:= .int k' hh) (y:=cap) rfl (Int.natCast_nonneg _) (by omega) w
  simp[Instr.sliceBounds,e1,e2]
theorem yN9 (s:List UInt8) (l h:Nat):(ByteArray.mk s.toArray).extract l h=ByteArray.mk ((s.take h).drop l).toArray:=by
 apply ByteArray.ext
 simp[ByteArray.data_extract,Dz]
 rw[List.drop_take]
theorem RdP.sub {rows:List (List V)} {s l hh cap n:Nat} {ad:Option Addr} (r:RdP w L (.sl .ro rows) (.slice ad n cap)) (hs:0<s) (hu:uni s rows) (h1:l<=hh) (h2:hh<=rows.length):
  RdP w L (.sl .ro ((rows.take hh).drop l)) (.slice (if cap=l then ad else ad.map (·.add (l*s))) (hh - l) (cap - l)):=by
 have hlen:((rows.take hh).drop l).length=hh - l:=by simp;omega
 by_cases h0:hh - l=0
 .have hnil:(rows.take hh).drop l= []:=B2 (by rw[hlen,h0])
  rw[hnil,h0]
  exact .sl0 _ _ _ (fun q=>by cases q) (fun _=>by simp)
 .have hne:rows≠ []:=fun q=>by subst q;simp at h2;omega
  obtain⟨s',b,o',cap',e1,hs',hu',hlim,hcap,_,hc⟩:=r.flat hne
  cases e1
  have hss:s'=s:=by
   obtain⟨r0,rest,rfl⟩:=D4 hne
   rw[<-hu' r0 (by simp),hu r0 (by simp)]
  subst hss
  rw[if_neg (by omega)]
  simp only[B3,xS]
  have hm:(rows.length)*s'=l*s'+(hh - l)*s'+(rows.length - hh)*s':=by rw[<-An,<-An];congr 1;omega
  rw[<-hlen]
  have hu2:uni s' ((rows.take hh).drop l):=fun q hq=>hu' q (Bn (D2 hq))
  refine .of_flat hs' hu2 (by rw[hlen];omega) (by rw[hlen];omega) (fun _=>by simp) (fun q=>by cases q) fun k v hk=> ?_
  have hkl:k<(hh - l)*s':=by
   have:=(A1.1 hk).1
   rwa [yA hu2,hlen]at this
  have hi:k/s'<hh - l:=by rw[Cj hs'];exact hkl
  have hj:k%s'<s':=D1 _ hs'
  have hk':k=k/s'*s'+k%s':=by rw[Bw];exact(Di k s').symm
  rw[hk',yM _ _ hu2 hj]at hk
  rw[B0,Ae,if_pos (by omega)]at hk
  have hk2:rows.flatten[(l+k/s')*s'+k%s']? =some v:=by rw[yM _ _ hu' hj];exact hk
  obtain⟨y,hy,ry⟩:=hc _ _ hk2
  refine⟨y, ?_,ry⟩
  rw[show o'+l*s'+k=o'+((l+k/s')*s'+k%s') by rw[An];omega]
  exact hy
theorem xu5 {dst:Option Tmp} {ty:TypeId} {pos:String} {aft:Array Edge} {g:Option (Nat×Bool)} (t:TypeId) (x:Operand) (lo hi:Option Operand) (h:Sim c nt e σ a w L β):
  ROk (zm2 (arrT P t) (lenT P t) ((elT P t).map (·.1)) (zF e x) (lo.map (zF e)) (hi.map (zF e))) σ (Yield P c ⟨dst,.slice t x lo hi none,ty,pos,aft,g⟩ a w L σ β):=by
 have hx:=h.eval x
 have conv: ∀{z:Option Operand} {d n:Int} {m:Nat},bnd (z.map (zF e)) d=some n->n=m-> ∀{dn:Nat},d=dn->((z.map a.eval)=none/\m=dn)∨ ∃k,(z.map a.eval)=some (.int k m):=by
  intro z d n m hz hn dn hd
  rcases xm0 hz h with ⟨rfl,q⟩|⟨p,k,rfl,q⟩
  .exact .inl ⟨rfl,by omega⟩
  .exact .inr ⟨k,by simp[q,hn]⟩
 unfold zm2
 split
 .rename_i id s n l0 m h1
  rw[h1]at hx
  split
  .rename_i l hh z hl hhh hz
   split
   .rename_i hk
    obtain⟨el0,hu0⟩:=zK6 hk
    rintro⟨a0,a1,a2,rfl⟩
    have r1:=conv hl (m:=l.toNat) (by omega) (dn:=0) rfl
    have r2:=conv hhh (m:=hh.toNat) (by omega) (dn:=m) rfl
    obtain⟨by',hel⟩: ∃b,elT P t=some (z,b):=by
     cases hq:elT P t with
     |none=>simp[hq]at hz
     |some q=>obtain⟨q1,q2⟩:=q;simp[hq]at hz;subst hz;exact⟨q2,rfl⟩
    obtain⟨el,i,zz,hu,hi',hzz,rfl,_,hzs,hs,_⟩:=zd8 hel
    obtain⟨ad,cap,hv,hmc,hpos,hc⟩:=hx
    have hhc:hh.toNat<=cap:=by obtain⟨q1,q2⟩:=hmc;clear hpos hc;omega
    have:=zD4 (P:=P) (isS:=true) (len:=m) (cap:=cap) r1 r2 (by omega) hhc w
    refine Yield.pure h (x:= .slice (if cap=l.toNat then ad else ad.map (·.add (l.toNat*i.size))) (hh.toNat - l.toNat) (cap - l.toNat)) ?_ ?_
    .simp[execOp,hv,Instr.sliceAt,run_underlying hu,Instr.slice,this,sizeOf,typeInfo,hi']
    .refine⟨_,cap - l.toNat,by rw[show(hh - l).toNat=hh.toNat - l.toNat by omega],by obtain⟨q1,q2⟩:=hmc;clear hpos hc;omega,fun hp=> ?_, ?_⟩
     .obtain⟨b,o,rfl⟩:=hpos (by clear hc;omega)
      rw[if_neg (by omega)]
      exact⟨b,o+l.toNat*i.size,by simp[xS]⟩
     .rcases hc with hd|⟨rows,hσ,hn,hb⟩
      .exact .inl hd
      .refine .inr ⟨rows,hσ,hn,fun q1=> ?_⟩
       obtain⟨b0,c0,hβ,hcc,hlo,hadr⟩:=hb q1
       clear hb hpos
       refine⟨b0,c0,hβ,by clear hadr;omega,by clear hadr;omega,fun hlt=> ?_⟩
       obtain⟨k0,e1,e2⟩:=hadr (by clear hadr;omega)
       clear hadr
       refine⟨k0,e1, ?_⟩
       rw[if_neg (by omega),e2]
       simp[xS,An]
   .trivial
  .trivial
 .rename_i id off h1
  rw[h1]at hx
  split
  .rename_i n sz ag hlo hhi har
   obtain⟨bl,hb,hv⟩:=hx
   obtain⟨el,hu,hel,_⟩:=zI2 har
   have e1:lo=none:=by cases lo<;>simp_all
   have e2:hi=none:=by cases hi<;>simp_all
   subst e1 e2
   refine Yield.pure h (x:= .slice (some ⟨bl,off,none⟩) n n) ?_ ⟨bl,hb,rfl⟩
   simp[execOp,hv,Instr.sliceAt,run_underlying hu,Instr.sureAddr,Instr.sliceBounds,wR hel,xS]
  .trivial
 .rename_i s h1
  rw[h1]at hx
  split
  .rename_i l hh hl hhh
   split
   .rename_i hk
    have hu:=yX1 hk
    rintro⟨a0,a1,a2⟩
    have r1:=conv hl (m:=l.toNat) (by omega) (dn:=0) rfl
    have r2:=conv hhh (m:=hh.toNat) (by omega) (dn:=s.length) rfl
    refine Yield.pure h (x:= .string ⟨((s.take hh.toNat).drop l.toNat).toArray⟩) ?_ (RdP.str _)
    have:=zD4 (P:=P) (isS:=false) (len:=(ByteArray.mk s.toArray).size) (cap:=(ByteArray.mk s.toArray).size) r1 (by rw[zk7];exact r2) (by omega) (by rw[zk7];omega) w
    simp[execOp,wK hx,Instr.sliceAt,run_underlying hu,Instr.slice,this,yN9]
   .trivial
  .trivial
 .rename_i gg rows h1
  rw[h1]at hx
  split
  .rename_i l hh z hl hhh hz
   split
   .rename_i hk
    obtain⟨el0,hu0⟩:=zK6 hk
    rintro⟨a0,a1,a2,hun⟩
    have r1:=conv hl (m:=l.toNat) (by omega) (dn:=0) rfl
    have r2:=conv hhh (m:=hh.toNat) (by omega) (dn:=rows.length) rfl
    obtain⟨by',hel⟩: ∃b,elT P t=some (z,b):=by
     cases hq:elT P t with
     |none=>simp[hq]at hz
     |some q=>obtain⟨q1,q2⟩:=q;simp[hq]at hz;subst hz;exact⟨q2,rfl⟩
    obtain⟨el,i,zz,hu,hi',hzz,rfl,_,hzs,hs,_⟩:=zd8 hel
    have hr:=zv1 hx
    obtain⟨base,cap,hv,hcl,_⟩:=hr.len
    rw[hv]at hr
    have hsub:=hr.sub (l:=l.toNat) (hh:=hh.toNat) hs hun (by omega) (by omega)
    refine Yield.pure h (x:= .slice (if cap=l.toNat then base else base.map (·.add (l.toNat*i.size))) (hh.toNat - l.toNat) (cap - l.toNat)) ?_ hsub
    have:=zD4 (P:=P) (isS:=true) (len:=rows.length) (cap:=cap) r1 r2 (by omega) (by omega) w
    simp[execOp,hv,Instr.sliceAt,run_underlying hu,Instr.slice,this,sizeOf,typeInfo,hi']
   .trivial
  .trivial
 .trivial
def zp6 (k:Nat) (es:Option Nat) (σ:St) (x lo:V):R:=
 match x,lo,es with
 | .sl (.app id) rows,.int _ l,some z=>(match σ[id]? with
  |some (.app n s)=>if k=2 then .needst (0<=l/\l<=rows.length/\rows.length=n/\z=s) (.sl (.app σ.length) (rows.drop l.toNat)) (σ.set id (.app (n+1) s)++ [.app (n - l.toNat) s])else .fail
  |_=> .fail)
 |_,_,_=> .fail
theorem Ext.setApp {i s n m:Nat} {x y:Value} (hi:σ[i]? =some (.app n s)) (hβ:β[i]? =some x) (hx: ∀a,x≠ .pointer a) (hge:n<m):
  Ext σ β (σ.set i (.app m s)) (β.set i y):=by
 have hlt:i<σ.length:=(A1.1 hi).1
 refine⟨fun id a e=> ?_,fun id n0 s0 e=> ?_,fun id r0 s0 e=> ?_,fun id e=> ?_⟩
 .have:i≠id:=fun q=>by subst q;rw[hβ]at e;cases e;exact hx _ rfl
  rw[Ad this];exact e
 .by_cases q:i=id
  .subst q
   rw[hi]at e;cases e
   exact⟨m,by rw[Ak hlt],by omega,fun e=>by omega⟩
  .exact⟨n0,by rw[Ad q];exact e,A2 _,fun _=>by rw[Ad q]⟩
 .have q:i≠id:=fun q=>by subst q;rw[hi]at e;cases e
  exact .inr ⟨r0,by rw[Ad q];exact e,A2 _,fun _=>by rw[Ad q]⟩
 .have q:i≠id:=fun q=>by subst q;rw[hi]at e;cases e
  rw[Ad q];exact e
theorem xh6 {dst:Option Tmp} {ty:TypeId} {pos:String} {aft:Array Edge} {g:Option (Nat×Bool)} (t:TypeId) (x lo:Operand) (h:Sim c nt e σ a w L β):
  ROk (zp6 (lenT P t) ((elT P t).map (·.1)) σ (zF e x) (zF e lo)) σ (Yield P c ⟨dst,.slice t x (some lo) none none,ty,pos,aft,g⟩ a w L σ β):=by
 have hx:=h.eval x
 have hlo:=h.eval lo
 unfold zp6
 split
 .rename_i id rows kk l z h1 h2 hz
  rw[h1]at hx
  rw[h2]at hlo
  split
  .rename_i n s hσ
   split
   .rename_i hk
    obtain⟨el0,hu0⟩:=zK6 hk
    rintro⟨a0,a1,hn,hzs'⟩
    subst hzs'
    obtain⟨by',hel⟩: ∃b,elT P t=some (z,b):=by
     cases hq:elT P t with
     |none=>simp[hq]at hz
     |some q=>obtain⟨q1,q2⟩:=q;simp[hq]at hz;subst hz;exact⟨q2,rfl⟩
    obtain⟨el,i,zz,hu,hi',hzz,rfl,_,hzs,hs,_⟩:=zd8 hel
    obtain⟨hr,n',s',e1,hle,hβ',hun⟩:=hx
    rw[hσ]at e1;cases e1
    have hβ:=hβ' hn
    have hok:=h.mem.objs id _ _ hσ hβ
    obtain⟨ad,cap,hv,hcl,hs0,hroom⟩:=hok
    rw[hv]at hr hβ
    have hil:id<σ.length:=(A1.1 hσ).1
    subst hn
    have hsub:=hr.sub (l:=l.toNat) (hh:=rows.length) hs hun (by omega) (by omega)
    rw[Au (A2 _)]at hsub
    have hb:=zD4 (P:=P) (isS:=true) (len:=rows.length) (cap:=cap) (l:=l.toNat) (hh:=rows.length) (lo:=some (a.eval lo)) (hi:=none) (.inr ⟨kk,by rw[yI hlo];congr 2;omega⟩) (.inl ⟨rfl,rfl⟩) (by omega) hcl w
    have hext1:Ext σ β (σ.set id (.app (rows.length+1) i.size)) (β.set id (.slice none (rows.length+1) (rows.length+1))):=Ext.setApp hσ hβ (fun a e=>by cases e) (by omega)
    have hm1:Mem c w L (σ.set id (.app (rows.length+1) i.size)) (β.set id (.slice none (rows.length+1) (rows.length+1))):=by
     refine h.mem.upd id _ _ (Le.refl _ _) hext1 (fun _=>False) (fun _ _ _ _ _ _ _ _ q=>q) (fun _ q=>q.elim) (fun _ _=>⟨rfl,rfl⟩) rfl rfl rfl rfl h.mem.lim ?_ (fun b q=> ?_)
     .exact⟨none,_,rfl,A2 _,hs0,fun q=>by omega⟩
     .simp[excl]at q
    have hex: ∀b,excl (.app (rows.length - l.toNat) i.size) (.slice (if cap=l.toNat then ad else ad.map (·.add (l.toNat*i.size))) (rows.length - l.toNat) (cap - l.toNat))=some b->excl (.app rows.length i.size) (.slice ad rows.length cap)=some b:=fun b q=>by
     clear hroom
     by_cases q1:cap=l.toNat
     .rw[if_pos q1]at q
      cases ad with
      |none=>simp[excl]at q
      |some a1=>simp only[excl]at q;rw[if_neg (by omega)]at q;cases q
     .rw[if_neg q1]at q
      cases ad with
      |none=>simp[excl]at q
      |some a1=>
       simp only[excl,B3]at q⊢
       split at q
       .rename_i q2
        rw[if_pos (by omega)]
        rw[<-q];unfold Addr.add;split<;>rfl
       .cases q
    have hm2:=hm1.push (.app (rows.length - l.toNat) i.size) (.slice (if cap=l.toNat then ad else ad.map (·.add (l.toNat*i.size))) (rows.length - l.toNat) (cap - l.toNat))
     ⟨_,_,rfl,by clear hroom;omega,hs0,fun q=>by
      have q0:rows.length<cap:=by clear hroom;omega
      obtain⟨b,o,arr,T,fz,rfl,hh,hf,hfit,hL⟩:=hroom q0
      have q1: ¬cap=l.toNat:=by clear hroom;omega
      refine⟨b,o+l.toNat*i.size,arr,T,fz,by rw[if_neg q1];simp[xS],hh,hf, ?_, ?_⟩
      .rw[Bv,<-An]
       rw[show l.toNat+(cap - l.toNat)=cap by clear hroom;omega];exact hfit
      .rw[hL,Bv,<-An]
       rw[show l.toNat+(rows.length - l.toNat)=rows.length by clear hroom;omega]⟩
     (fun j o' x' b ho' hx' he hb'=>by
      have hb2:=hex b hb'
      rcases wL ho' with ⟨rfl,rfl,_⟩|⟨hne,ho2⟩
      .rcases wL hx' with ⟨_,rfl,_⟩|⟨q,_⟩
       .simp[excl]at he
       .exact q rfl
      .rcases wL hx' with ⟨q,_,_⟩|⟨_,hx2⟩
       .exact hne q
       .exact h.mem.apart j id _ _ _ _ b hne ho2 hx2 hσ hβ he hb2)
     (fun b hb'=>h.mem.mine id _ _ b hσ hβ (hex b hb'))
    have hext2:=hext1.trans (Ext.push _ _ hm1.len (.app (rows.length - l.toNat) i.size) (.slice (if cap=l.toNat then ad else ad.map (·.add (l.toNat*i.size))) (rows.length - l.toNat) (cap - l.toNat)))
    refine⟨_,w,L,_,.inl ?_,hm2,Le.refl _ _,hext2,hsub,rows.length - l.toNat,i.size,by simp,by simp,fun _=>by simp[h.mem.len],fun r hr=>hun r (D2 hr)⟩
    simp[execOp,hv,Instr.sliceAt,run_underlying hu,Instr.slice,hb,sizeOf,typeInfo,hi']
   .trivial
  .trivial
 .trivial
def zp5 (es:Option Nat) (x lo hi mx:V):R:=
 match x,lo,hi,mx,es with
 | .sl _ rows,.int _ l,.int _ h,.int _ m,some z=> .need (0<=l/\l<=h/\h<=rows.length/\m=h/\uni z rows) (.sl .full ((rows.take h.toNat).drop l.toNat))
 | .lsv _ s _ _ n,.int _ l,.int _ h,.int _ m,some z=> .need (0<=l/\l<=h/\h<=m/\m<=n/\z=s) (if l=m then .sl .full []else .u)
 |_,_,_,_,_=> .fail
theorem RdP.full {rows:List (List V)} {n:Nat} {ad:Option Addr} (r:RdP w L (.sl .ro rows) (.slice ad n n)) (hn:n=rows.length):RdP w L (.sl .full rows) (.slice ad n n):=by
 cases r with
 |sl0 _ a cap hg ha=>exact .sl0 _ _ _ (fun _=>rfl) (fun _=>by simp)
 |sl _ _ s b o cap c ha hs hlen hlim hcap hg hc hr=>exact .sl _ rows s b o _ c (fun _=>by simp) hs hlen hlim hcap (fun _=>rfl) hc hr
theorem RdP.shrink {rows:List (List V)} {s n cap M:Nat} {base:Option Addr} (hr:RdP w L (.sl .ro rows) (.slice base n cap)) (hs:0<s) (hun:uni s rows) (hM:M<=rows.length):RdP w L (.sl .ro (rows.take M)) (.slice base M M):=by
 have hlen:(rows.take M).length=M:=by simp;omega
 by_cases h0:M=0
 .subst h0
  exact .sl0 _ _ _ (fun q=>by cases q) (fun _=>by simp)
 .have hne:rows≠ []:=fun q=>by subst q;simp at hM;omega
  obtain⟨s',b,o',cap',q,hs',hu',hlim,hcap,_,hc⟩:=hr.flat hne
  cases q
  have hss:s'=s:=by
   obtain⟨r0,rest,rfl⟩:=D4 hne
   rw[<-hu' r0 (by simp),hun r0 (by simp)]
  subst hss
  have hm:M*s'<=rows.length*s':=Ao _ hM
  have key:RdP w L (.sl .ro (rows.take M)) (.slice (some ⟨b,o',none⟩) (rows.take M).length M):=by
   refine .of_flat hs' (fun q hq=>hu' q (Bn hq)) (by rw[hlen];omega) (by omega) (fun _=>by simp) (fun q=>by cases q) fun k v hk=>hc k v ?_
   have:rows.flatten=(rows.take M).flatten++(rows.drop M).flatten:=by rw[<-Bx,Bp]
   rw[this,Ab (A1.1 hk).1]
   exact hk
  rw[hlen]at key
  exact key
theorem xh5 {dst:Option Tmp} {ty:TypeId} {pos:String} {aft:Array Edge} {g:Option (Nat×Bool)} (t:TypeId) (x lo hi mx:Operand) (h:Sim c nt e σ a w L β):
  ROk (zp5 ((elT P t).map (·.1)) (zF e x) (zF e lo) (zF e hi) (zF e mx)) σ (Yield P c ⟨dst,.slice t x (some lo) (some hi) (some mx),ty,pos,aft,g⟩ a w L σ β):=by
 have hx:=h.eval x
 have h2:=h.eval lo
 have h3:=h.eval hi
 have h4:=h.eval mx
 unfold zp5
 split
 .rename_i gg rows k1 l k2 hh k3 m z e1 e2 e3 e4 hz
  rw[e1]at hx;rw[e2]at h2;rw[e3]at h3;rw[e4]at h4
  have e2:=yI h2;have e3:=yI h3;have e4:=yI h4
  rintro⟨a0,a1,a2,rfl,hun⟩
  obtain⟨by',hel⟩: ∃b,elT P t=some (z,b):=by
   cases hq:elT P t with
   |none=>simp[hq]at hz
   |some q=>obtain⟨q1,q2⟩:=q;simp[hq]at hz;subst hz;exact⟨q2,rfl⟩
  obtain⟨el,i,zz,hu,hi',hzz,rfl,_,hzs,hs,_⟩:=zd8 hel
  have hr:=zv1 hx
  obtain⟨base,cap,hv,hcl,_⟩:=hr.len
  rw[hv]at hr
  have hcapr:=hr.shrink (M:=m.toNat) hs hun (by omega)
  have hsub:=hcapr.sub (l:=l.toNat) (hh:=m.toNat) hs (fun q hq=>hun q (Bn hq)) (by omega) (by simp;omega)
  rw[Ef,Nat.min_self]at hsub
  refine Yield.pure h (x:= .slice (if m.toNat=l.toNat then base else base.map (·.add (l.toNat*i.size))) (m.toNat - l.toNat) (m.toNat - l.toNat)) ?_ (hsub.full (by simp;omega))
  have b1:=fun code=>zf8 (P:=P) (code:=code) e2 a0 (show l<=(m.toNat:Nat) by omega) w
  have b2:=fun code=>zf8 (P:=P) (code:=code) e3 (by omega) (show m<=(m.toNat:Nat) by omega) w
  have b3:=fun code=>zf8 (P:=P) (code:=code) e4 (by omega) (show m<=(cap:Nat) by omega) w
  have:=run_underlying hu
  simp[execOp,hv,Instr.sliceAt,run_underlying hu,Instr.slice,Instr.sliceBounds,b1,b2,b3,sizeOf,typeInfo,hi']
 .rename_i id s n0 lo0 n k1 l k2 hh k3 m z e1 e2 e3 e4 hz
  rw[e1]at hx;rw[e2]at h2;rw[e3]at h3;rw[e4]at h4
  have e2:=yI h2;have e3:=yI h3;have e4:=yI h4
  rintro⟨a0,a1,a2,a3,rfl⟩
  obtain⟨by',hel⟩: ∃b,elT P t=some (z,b):=by
   cases hq:elT P t with
   |none=>simp[hq]at hz
   |some q=>obtain⟨q1,q2⟩:=q;simp[hq]at hz;subst hz;exact⟨q2,rfl⟩
  obtain⟨el,i,zz,hu,hi',hzz,rfl,_,hzs,hs,_⟩:=zd8 hel
  obtain⟨ad,cap,hv,hmc,_,_⟩:=hx
  refine Yield.pure h (x:= .slice (if m.toNat=l.toNat then ad else ad.map (·.add (l.toNat*i.size))) (hh.toNat - l.toNat) (m.toNat - l.toNat)) ?_ (by
   split
   .have h1:hh.toNat - l.toNat=0:=by omega
    have h2:m.toNat - l.toNat=0:=by omega
    rw[h1,h2]
    exact RdP.sl0 _ _ _ (fun _=>rfl) (fun _=>by simp)
   .trivial)
  have b1:=fun code=>zf8 (P:=P) (code:=code) e2 a0 (show l<=(hh.toNat:Nat) by omega) w
  have b2:=fun code=>zf8 (P:=P) (code:=code) e3 (by omega) (show hh<=(m.toNat:Nat) by omega) w
  have b3:=fun code=>zf8 (P:=P) (code:=code) e4 (by omega) (show m<=(cap:Nat) by have:=hmc.1;omega) w
  simp[execOp,hv,Instr.sliceAt,run_underlying hu,Instr.slice,Instr.sliceBounds,b1,b2,b3,sizeOf,typeInfo,hi']
 .trivial
end
end Go.Vx
