/-
  Operations over trees: indexes, slices, lengths, appends, literals, conversions.
  No condition: a library text; nothing of the program is named.
-/
import Derived.Test.YtajjjghohakniaaGreatLAC
import Derived.Great.BuildSlice
namespace Go.Vx
open Go
section
variable {P:Program} {c:Ctx} {nt:Nat} {e:Env} {σ:St} {a:Act} {w:World} {L:Nat→Nat} {β:List Value} {o:Oper}
def zi8 (ag:Option Bool) (sz:Option Nat) (cs:List V) (off:Nat):R:=
 match ag,sz with
 |some true,some s=>if off+s≤cs.length then .ok (.agg ((cs.drop off).take s))else .fail
 |some false,_=>(match cs[off]? with|some v=> .ok v|none=> .fail)
 |_,_=> .fail
def zf7 (P:Program) (t:TypeId) (σ:St) (x:V):R:=
 match x with
 | .ptr id off=>(match σ[id]? with|some (.box cs)=>zi8 (aggT P t) (szT P t) cs off|_=> .fail)
 | .elp cs off=>zi8 (aggT P t) (szT P t) cs off
 | .lsp id s n k j=>(match σ[id]? with|some (.lst rows s')=>if s'=s∧rows.length=n∧k<n then zi8 (aggT P t) (szT P t) (rows.getD k []) j else .fail|_=> .fail)
 |_=> .fail
theorem zL1 {t:TypeId} {s bl off:Nat} {xs:List Value} (hag:aggT P t=some true) (hsz:szT P t=some s) (hl:xs.length=s) (hx: ∀(j:Nat) v,xs[j]? =some v→w.cell? ⟨bl,off+j,none⟩=some v):
  (loadVar t ⟨bl,off,none⟩).run P w= .ok (.agg xs.toArray) w:=by
 have:=run_loadCells_list (P:=P) w ⟨bl,off,none⟩ xs (fun j v hj=>by rw[xP];exact hx j v hj)
 rw[hl]at this
 simp only[loadVar,Sem.run_bind,zl0 hag,Result.andThen_ok,if_true,wH hsz,this,Sem.run_pure]
theorem zO4 {t:TypeId} {bl off:Nat} {v:Value} (hag:aggT P t=some false) (hx:w.cell? ⟨bl,off,none⟩=some v):
  (loadVar t ⟨bl,off,none⟩).run P w= .ok v w:=by
 simp only[loadVar,Sem.run_bind,zl0 hag,Result.andThen_ok,Bool.false_eq_true,if_false]
 simp[hx]
theorem zN7 (t:TypeId) {cs:List V} {bl o off:Nat} {v:V}
  (hc: ∀(j:Nat) v,cs[j]? =some v→ ∃y,w.cell? ⟨bl,o+j,none⟩=some y∧RdC w L σ β v y) (hl:zi8 (aggT P t) (szT P t) cs off= .ok v):
  ∃y,(loadVar t ⟨bl,o+off,none⟩).run P w= .ok y w∧RdS w L σ β v y:=by
 unfold zi8 at hl
 split at hl
 ·rename_i s hag hsz
  split at hl
  ·rename_i hle
   simp only[R.ok.injEq]at hl
   subst hl
   let f:=fun k=>(w.cell? ⟨bl,o+(off+k),none⟩).getD undef
   let xs:=(List.range s).map f
   have hxs: ∀(j:Nat) v,xs[j]? =some v→w.cell? ⟨bl,o+off+j,none⟩=some v∧ ∃p,cs[off+j]? =some p∧RdC w L σ β p v:=by
    intro j v hj
    have hjl:j<s:=by
     have:=(List.getElem?_eq_some_iff.1 hj).1
     simpa[xs]using this
    simp only[xs,List.getElem?_map,List.getElem?_range hjl,Option.map_some,Option.some.injEq]at hj
    obtain⟨y,hy,r⟩:=hc (off+j) _ (List.getElem?_eq_getElem (by omega))
    have hyv:y=v:=by rw[←hj];simp[f,hy]
    subst hyv
    exact⟨by rw[Nat.add_assoc];exact hy,_,List.getElem?_eq_getElem (by omega),r⟩
   refine⟨.agg xs.toArray,zL1 (P:=P) (w:=w) (xs:=xs) hag hsz (by simp[xs]) (fun j v hj=>(hxs j v hj).1),xs,rfl,All2.of (by simp[xs];omega) fun j p v hu hj=> ?_⟩
   obtain⟨_,p',hu',r⟩:=hxs j v hj
   rw[List.getElem?_take,List.getElem?_drop]at hu
   split at hu
   ·rw[hu']at hu;cases hu;exact r
   ·cases hu
  ·cases hl
 ·rename_i hag
  split at hl
  ·rename_i v' hv'
   simp only[R.ok.injEq]at hl
   subst hl
   obtain⟨y,hy,r⟩:=hc off _ hv'
   exact⟨y,zO4 (P:=P) hag hy,RdS.of_cell r⟩
  ·cases hl
 ·cases hl
theorem zx3 {ag:Option Bool} {sz:Option Nat} {cs:List V} {off:Nat}:(∃v,zi8 ag sz cs off= .ok v)∨zi8 ag sz cs off= .fail:=by
 unfold zi8
 split
 ·split
  ·exact .inl ⟨_,rfl⟩
  ·exact .inr rfl
 ·split
  ·exact .inl ⟨_,rfl⟩
  ·exact .inr rfl
 ·exact .inr rfl
theorem yq0 (t:TypeId) {x:V} {y:Value} {v:V} (hm:Mem c w L σ β) (hx:RdS w L σ β x y) (hl:zf7 P t σ x= .ok v):
  ∃bl off z,y= .pointer (some ⟨bl,off,none⟩)∧(loadVar t ⟨bl,off,none⟩).run P w= .ok z w∧RdS w L σ β v z:=by
 unfold zf7 at hl
 split at hl
 ·rename_i id off
  obtain⟨bl,hb,hv⟩:=hx
  split at hl
  ·rename_i cs hσ
   obtain⟨b',arr,T,fz,e1,hh,_,_,hall⟩:=hm.objs id _ _ hσ hb
   cases e1
   obtain⟨z,hz,r⟩:=zN7 (P:=P) (w:=w) (L:=L) (σ:=σ) (β:=β) t (bl:=bl) (o:=0) (fun j v hj=>by
    obtain⟨y,hy,r⟩:=hall.get _ _ hj
    refine⟨y, ?_,r⟩
    simp only[World.cell?,hh]
    simpa using hy) hl
   rw[Nat.zero_add]at hz
   exact⟨bl,off,z,hv,hz,r⟩
  ·cases hl
 ·rename_i cs off
  obtain⟨bl,o',c',hv,hlim,hc⟩:=hx
  obtain⟨z,hz,r⟩:=zN7 (P:=P) (w:=w) (L:=L) (σ:=σ) (β:=β) t (bl:=bl) (o:=o') (fun j v hj=>by
   obtain⟨hj1,hj2⟩:=List.getElem?_eq_some_iff.1 hj
   obtain⟨h2,h3⟩:=hc j hj1
   rw[hj2]at h3
   exact⟨_,h2,RdC.of_pure h3⟩) hl
  exact⟨bl,o'+off,z,hv,hz,r⟩
 ·rename_i id s n k j
  obtain⟨bl,o',hv,hc⟩:=hx
  split at hl
  ·rename_i rows s' hσ
   split at hl
   ·rename_i hcond
    obtain⟨rfl,hn,hk⟩:=hcond
    rcases hc with hd|⟨rows2,hσ2,hn2,hb⟩
    ·rw[hσ]at hd;cases hd
    ·rw[hσ]at hσ2
     cases hσ2
     obtain⟨c0,hβ,ho⟩:=hb hn.symm hk
     obtain⟨a,cap,e1,hcap,hs,hu,hok⟩:=hm.objs id _ _ hσ hβ
     cases e1
     obtain⟨b',arr,T,fz,e2,hh,_,_,_,hall⟩:=hok (by omega)
     cases e2
     have hg:rows.getD k []=rows[k]'(by omega):=by rw[List.getD_eq_getElem?_getD,List.getElem?_eq_getElem (by omega)];rfl
     obtain⟨z,hz,r⟩:=zN7 (P:=P) (w:=w) (L:=L) (σ:=σ) (β:=β) t (bl:=bl) (o:=k*s') (cs:=rows.getD k []) (off:=j) (fun i v hi=>by
      have hi2:i<s':=by
       have:=(List.getElem?_eq_some_iff.1 hi).1
       rwa [hg,hu _ (List.getElem_mem _)]at this
      have hf:rows.flatten[k*s'+i]? =some v:=by
       rw[yU _ _ hu hi2,List.getElem?_eq_getElem (by omega),←hg];exact hi
      obtain⟨y,hy,r⟩:=hall.get _ _ hf
      refine⟨y, ?_,r⟩
      rw[List.getElem?_take]at hy
      split at hy
      ·simp only[World.cell?,hh]
       simpa using hy
      ·cases hy) hl
     exact⟨bl,k*s'+j,z,by rw[hv,ho],hz,r⟩
   ·cases hl
  ·cases hl
 ·cases hl
theorem yo1 {t:TypeId} {x:V}:(∃v,zf7 P t σ x= .ok v)∨zf7 P t σ x= .fail:=by
 unfold zf7
 split
 ·split
  ·exact zx3
  ·exact .inr rfl
 ·exact zx3
 ·split
  ·split
   ·exact zx3
   ·exact .inr rfl
  ·exact .inr rfl
 ·exact .inr rfl
theorem zQ3 {s:Nat} {vs:List V}: ∀{rows:List (List V)} (k j:Nat),(∀r∈rows,r.length=s)→k<rows.length→j+vs.length≤s→(rows.set k (yP (rows.getD k []) j vs)).flatten=yP rows.flatten (k*s+j) vs
 | [],k,j,_,hk,_=>by simp at hk
 |r::rows,0,j,h,_,hj=>by
  have hr:=h r (by simp)
  have e:(r::rows).getD 0 []=r:=rfl
  rw[e,List.set_cons_zero,List.flatten_cons,List.flatten_cons,Nat.zero_mul,Nat.zero_add]
  unfold yP
  rw[List.take_append_of_le_length (by omega),List.drop_append_of_le_length (by omega)]
  simp
 |r::rows,k+1,j,h,hk,hj=>by
  have hr:=h r (by simp)
  have ih:=zQ3 (s:=s) (vs:=vs) (rows:=rows) k j (fun x hx=>h x (by simp[hx])) (by simpa using hk) hj
  have e:(r::rows).getD (k+1) []=rows.getD k []:=by simp
  rw[e,List.set_cons_succ,List.flatten_cons,ih,List.flatten_cons]
  unfold yP
  have e2:(k+1)*s+j=r.length+(k*s+j):=by rw[Nat.add_mul,hr];omega
  have e3:r.length+(k*s+j)+vs.length=r.length+(k*s+j+vs.length):=Nat.add_assoc _ _ _
  rw[e2,List.take_length_add_append,e3,List.drop_length_add_append]
  simp
theorem xj9 {dst:Option Tmp} {ty:TypeId} {pos:String} {aft:Array Edge} {g:Option (Nat×Bool)} (t:TypeId) (x:Operand) (h:Sim c nt e σ a w L β):
  ROk (zf7 P t σ (zF e x)) σ (Yield P c ⟨dst,.load t x,ty,pos,aft,g⟩ a w L σ β):=by
 rcases yo1 (P:=P) (σ:=σ) (t:=t) (x:=zF e x)with ⟨v,hv⟩|hv
 ·obtain⟨bl,off,z,hy,hz,r⟩:=yq0 (P:=P) t h.mem (h.eval x) hv
  rw[hv]
  exact Yield.pure h (x:=z) (by simp[execOp,hy,Instr.loadAt,Instr.sureAddr,hz]) r
 ·rw[hv];trivial
def zp5 (P:Program) (t:TypeId) (σ:St) (x y:V):R:=
 match x with
 | .ptr id off=>(match σ[id]?,szT P t with
  |some (.box cs),some s=>if wN y=true∧(xU y).length=s∧off+s≤cs.length then .st .u (σ.set id (.box (yP cs off (xU y))))else .fail
  |_,_=> .fail)
 | .lsp id s n k j=>(match σ[id]?,szT P t with
  |some (.lst rows s'),some z=>if wN y=true∧(xU y).length=z∧j+z≤s∧s'=s∧rows.length=n∧k<n then .st .u (σ.set id (.lst (rows.set k (yP (rows.getD k []) j (xU y))) s))else .fail
  |_,_=> .fail)
 |_=> .fail
theorem xa1 {dst:Option Tmp} {ty:TypeId} {pos:String} {aft:Array Edge} {g:Option (Nat×Bool)} (t:TypeId) (x y:Operand) (h:Sim c nt e σ a w L β):
  ROk (zp5 P t σ (zF e x) (zF e y)) σ (Yield P c ⟨dst,.store t x y,ty,pos,aft,g⟩ a w L σ β):=by
 have hx:=h.eval x
 have hy:=h.eval y
 unfold zp5
 split
 ·rename_i id off h1
  rw[h1]at hx
  obtain⟨bl,hb,hv⟩:=hx
  split
  ·rename_i cs s hσ hsz
   split
   ·rename_i hcond
    obtain⟨hhas,hlen,hle⟩:=hcond
    have hcells:=zq4 hy hhas
    obtain⟨arr,T,fz,hh,hf,hsize,hmem,hle'⟩:=h.mem.setBox (off:=off) hσ hb hcells (by omega)
    have hl2:=hcells.length
    have hst:=wI P bl off T fz (a.eval y).cells.toList 0 arr w hh hf (by simp at hl2⊢;omega) (fun v hv=> ?_)
    ·refine⟨undef,_,L,β,.inr ⟨?_,rfl⟩,hmem,hle',Ext.setBox hσ _,trivial⟩
     rw[Nat.add_zero]at hst
     have hsz2:(a.eval y).cells.size=s:=by simp at hl2;omega
     simp[execOp,hv,Instr.storeAt,Instr.sureAddr,storeVar,wH hsz,hsz2,hst]
    ·obtain⟨k,hk⟩:=List.mem_iff_getElem?.1 hv
     have hkl:k<(xU (zF e y)).length:=by
      have:=(List.getElem?_eq_some_iff.1 hk).1
      omega
     obtain⟨z,hz,r⟩:=hcells.get k _ (List.getElem?_eq_getElem hkl)
     rw[hk]at hz;cases hz
     exact r.oneCell
   ·trivial
  ·trivial
 ·rename_i id s n k j h1
  rw[h1]at hx
  obtain⟨bl,o',hv,hc⟩:=hx
  split
  ·rename_i rows s' z hσ hsz
   split
   ·rename_i hcond
    obtain⟨hhas,hlen,hle,rfl,hn,hk⟩:=hcond
    rcases hc with hd|⟨rows2,hσ2,hn2,hb⟩
    ·rw[hσ]at hd;cases hd
    ·rw[hσ]at hσ2
     cases hσ2
     obtain⟨c0,hβ,ho⟩:=hb hn.symm hk
     obtain⟨a',cap,e1,hcap,hs,hu,_⟩:=h.mem.objs id _ _ hσ hβ
     cases e1
     have hcells:=zq4 hy hhas
     have hl2:=hcells.length
     have hkl:k<rows.length:=by omega
     have hks:(k+1)*s'≤rows.length*s':=Nat.mul_le_mul_right _ hkl
     rw[Nat.add_mul,Nat.one_mul]at hks
     have hg:rows.getD k []=rows[k]'hkl:=by rw[List.getD_eq_getElem?_getD,List.getElem?_eq_getElem hkl];rfl
     obtain⟨arr,T,fz,hh,hf,hsize,hmem,hle',hext⟩:=h.mem.lstPut (rows2:=rows.set k (yP (rows.getD k []) j (xU (zF e y)))) (off:=k*s'+j) hσ hβ (by omega) hcells (by omega) (fun r hr=>by
      rcases List.mem_or_eq_of_mem_set hr with hr|hr
      ·exact hu r hr
      ·subst hr
       rw[zz5 _ _ _ (by rw[hg,hu _ (List.getElem_mem hkl)];omega),hg];exact hu _ (List.getElem_mem hkl)) (zQ3 k j hu hkl (by omega)) (by simp) (by simp;omega)
     have hset:β.set id (.slice (some ⟨bl,0,none⟩) (rows.set k (yP (rows.getD k []) j (xU (zF e y)))).length c0)=β:=xK _ _ _ (by rw[List.length_set,hn];exact hβ)
     rw[hset]at hmem hext
     have hst:=wI P bl (k*s'+j) T fz (a.eval y).cells.toList 0 arr w hh hf (by simp at hl2 hsize⊢;omega) (fun v hv=> ?_)
     ·refine⟨undef,_,L,β,.inr ⟨?_,rfl⟩,hmem,hle',hext,trivial⟩
      rw[Nat.add_zero]at hst
      have hsz2:(a.eval y).cells.size=z:=by simp at hl2;omega
      simp[execOp,hv,ho,Instr.storeAt,Instr.sureAddr,storeVar,wH hsz,hsz2,hst]
     ·obtain⟨q,hq⟩:=List.mem_iff_getElem?.1 hv
      have hql:q<(xU (zF e y)).length:=by
       have:=(List.getElem?_eq_some_iff.1 hq).1
       omega
      obtain⟨z',hz',r⟩:=hcells.get q _ (List.getElem?_eq_getElem hql)
      rw[hq]at hz';cases hz'
      exact r.oneCell
   ·trivial
  ·trivial
 ·trivial
def zF8 (σ:St) (x:V):R:=if wN x=true then .st (.ptr σ.length 0) (σ++ [.box (xU x)])else .fail
theorem xs6 {dst:Option Tmp} {ty:TypeId} {pos:String} {aft:Array Edge} {g:Option (Nat×Bool)} (t:TypeId) (x:Operand) (h:Sim c nt e σ a w L β):
  ROk (zF8 σ (zF e x)) σ (Yield P c ⟨dst,.box t x,ty,pos,aft,g⟩ a w L σ β):=by
 have hx:=h.eval x
 unfold zF8
 split
 ·rename_i hhas
  obtain⟨h1,h2⟩:=h.mem.box _ (a.eval x).cells t (zq4 hx hhas)
  refine⟨_,_,L,_,.inl ?_,h1,h2,Ext.push σ β h.mem.len _ _,⟨w.heap.size, ?_,rfl⟩⟩
  ·simp[execOp,Instr.box,newVar,newRow]
  ·rw[←h.mem.len,List.getElem?_append_right (Nat.le_refl _)];simp
 ·trivial
def zi7 (P:Program) (t:TypeId) (σ:St):R:=
 match zX P t with
 |some cs=> .st (.ptr σ.length 0) (σ++ [.box cs])
 |none=> .fail
theorem zz3 {t:TypeId} {cs:List V} (h:zX P t=some cs): ∃i z,P.info? t=some i∧i.zero=some z∧(∀v∈z.cells.toList,v.oneCell'=true)∧cs=z.cells.toList.map za5:=by
 unfold zX at h
 cases hi:P.info? t with
 |none=>simp[hi]at h
 |some i=>
  cases hz:i.zero with
  |none=>simp[hi,hz]at h
  |some z=>
   simp only[hi,hz,Option.bind_some]at h
   split at h
   ·rename_i ha
    simp at h
    refine⟨i,z,rfl,hz,fun v hv=> ?_,h.symm⟩
    exact Array.all_eq_true_iff_forall_mem.1 ha v (Array.mem_toList_iff.1 hv)
   ·simp at h
theorem zP2 {xs:List Value} (h: ∀v∈xs,v.oneCell'=true):All2 (RdP w L) (xs.map za5) xs:=by
 induction xs with
 |nil=>trivial
 |cons x xs ih=>exact⟨(zr7 x (h x (by simp))).1,ih fun v hv=>h v (by simp[hv])⟩
theorem yZ1 {dst:Option Tmp} {ty:TypeId} {pos:String} {aft:Array Edge} {g:Option (Nat×Bool)} (t:TypeId) (h:Sim c nt e σ a w L β):
  ROk (zi7 P t σ) σ (Yield P c ⟨dst,.alloc t,ty,pos,aft,g⟩ a w L σ β):=by
 unfold zi7
 split
 ·rename_i cs hc
  obtain⟨i,z,hi,hzz,hone,rfl⟩:=zz3 hc
  obtain⟨h1,h2⟩:=h.mem.box (z.cells.toList.map za5) z.cells t ((zP2 hone).imp fun _ _=>RdC.of_pure)
  refine⟨_,_,L,_,.inl ?_,h1,h2,Ext.push σ β h.mem.len _ _,⟨w.heap.size, ?_,rfl⟩⟩
  ·simp[execOp,Instr.alloc,zeroValue,typeInfo,hi,hzz,newVar,newRow]
  ·rw[←h.mem.len,List.getElem?_append_right (Nat.le_refl _)];simp
 ·trivial
end
end Go.Vx
namespace Go.Vx
open Go
section
variable {P:Program} {c:Ctx} {nt:Nat} {e:Env} {σ:St} {a:Act} {w:World} {L:Nat→Nat} {β:List Value} {o:Oper}
def zg9 (sl:Option Nat) (ar:Option (Nat×Nat×Bool)) (x i:V):R:=
 match x,i with
 | .sl _ rows,.int _ k=>(match sl with
  |some s=> .need (0≤k∧k<rows.length∧(rows.getD k.toNat []).length=s) (.elp (rows.getD k.toNat []) 0)
  |none=> .fail)
 | .ptr id off,.int _ k=>(match ar with
  |some (n,s,_)=> .need (0≤k∧k<n) (.ptr id (off+k.toNat*s))
  |none=> .fail)
 | .elp cs off,.int _ k=>(match ar with
  |some (n,s,_)=> .need (0≤k∧k<n) (.elp cs (off+k.toNat*s))
  |none=> .fail)
 | .lsv id s n lo m,.int _ k=>if sl=some s then .need (0≤k∧k<m) (.lsp id s n (lo+k.toNat) 0)else .fail
 | .bsv id s off n,.int _ k=>if sl=some s then .need (0≤k∧k<n) (.ptr id (off+k.toNat*s))else .fail
 |_,_=> .fail
theorem zO5 {t:TypeId} {s:Nat} (h:slcT P t=some s): ∃el,P.underlying t=some (.slice el)∧szT P el=some s:=by
 unfold slcT at h
 split at h
 ·exact⟨_,by assumption,h⟩
 ·simp at h
theorem zD5 {t:TypeId} {n s:Nat} {b:Bool} (h:arrT P t=some (n,s,b)): ∃el,P.underlying t=some (.array n el)∧szT P el=some s∧aggT P el=some b:=by
 unfold arrT at h
 split at h
 ·rename_i m el hu
  cases hs:szT P el with
  |none=>simp[hs]at h
  |some s'=>
   cases hb:aggT P el with
   |none=>simp[hs,hb]at h
   |some b'=>
    simp[hs,hb]at h
    obtain⟨rfl,rfl,rfl⟩:=h
    exact⟨el,hu,hs,hb⟩
 ·simp at h
theorem yz3 {dst:Option Tmp} {ty:TypeId} {pos:String} {aft:Array Edge} {g:Option (Nat×Bool)} (t:TypeId) (x i:Operand) (h:Sim c nt e σ a w L β):
  ROk (zg9 (slcT P t) (arrT P t) (zF e x) (zF e i)) σ (Yield P c ⟨dst,.indexAddr t x i,ty,pos,aft,g⟩ a w L σ β):=by
 have hx:=h.eval x
 have hi:=h.eval i
 unfold zg9
 split
 ·rename_i gg rows kd k h1 h2
  rw[h1]at hx;rw[h2]at hi
  split
  ·rename_i s hs
   obtain⟨el,hu,hel⟩:=zO5 hs
   rintro⟨h0,hlt,hrow⟩
   have hk:k.toNat<rows.length:=by omega
   have hne:rows≠ []:=fun q=>by subst q;simp at hk
   obtain⟨s',b,o',cap,hv,hs',hu',hlim,_,_,hc⟩:=(zs0 hx).flat hne
   have hmem:rows.getD k.toNat []∈rows:=by
    rw[List.getD_eq_getElem?_getD,List.getElem?_eq_getElem hk];exact List.getElem_mem hk
   have hss:s'=s:=by rw[←hu' _ hmem];exact hrow
   subst hss
   have hgd:rows.getD k.toNat []=rows[k.toNat]:=by rw[List.getD_eq_getElem?_getD,List.getElem?_eq_getElem hk];rfl
   have e1:=yQ hi
   refine Yield.pure h (x:= .pointer (some ⟨b,o'+k.toNat*s',none⟩)) ?_ ?_
   ·simp[execOp,hv,e1,Instr.indexAt,asIntOf,run_underlying hu,wH hel,h0,hlt,xP]
   ·refine⟨b,o'+k.toNat*s',fun j=>(w.cell? ⟨b,o'+k.toNat*s'+j,none⟩).getD undef,rfl, ?_,fun j hj=> ?_⟩
    ·rw[hrow]
     have:(k.toNat+1)*s'≤rows.length*s':=Nat.mul_le_mul_right _ hk
     rw[Nat.add_mul,Nat.one_mul]at this
     omega
    ·rw[hrow]at hj
     obtain⟨y,hy,r⟩:=hc (k.toNat*s'+j) ((rows.getD k.toNat [])[j]'(by rw[hrow];exact hj)) (by
      rw[yU _ _ hu' hj,List.getElem?_eq_getElem hk]
      simp only[Option.bind_some]
      rw[List.getElem?_eq_getElem (by rw[hu' _ (List.getElem_mem hk)];exact hj)]
      simp only[hgd])
     rw[←Nat.add_assoc]at hy
     simpa[hy]using r
  ·trivial
 ·rename_i id off kd k h1 h2
  rw[h1]at hx;rw[h2]at hi
  split
  ·rename_i n s b hs
   obtain⟨el,hu,hel,_⟩:=zD5 hs
   rintro⟨h0,hlt⟩
   obtain⟨bl,hb,hv⟩:=hx
   refine Yield.pure h (x:= .pointer (some ⟨bl,off+k.toNat*s,none⟩)) ?_ ⟨bl,hb,rfl⟩
   simp[execOp,hv,yQ hi,Instr.indexAt,asIntOf,run_underlying hu,wH hel,h0,hlt,xP,Instr.sureAddr]
  ·trivial
 ·rename_i cs off kd k h1 h2
  rw[h1]at hx;rw[h2]at hi
  split
  ·rename_i n s b hs
   obtain⟨el,hu,hel,_⟩:=zD5 hs
   rintro⟨h0,hlt⟩
   obtain⟨bl,o',c',hv,hl,hc⟩:=hx
   refine Yield.pure h (x:= .pointer (some ⟨bl,o'+(off+k.toNat*s),none⟩)) ?_ ⟨bl,o',c',rfl,hl,hc⟩
   simp[execOp,hv,yQ hi,Instr.indexAt,asIntOf,run_underlying hu,wH hel,h0,hlt,xP,Instr.sureAddr,Nat.add_assoc]
  ·trivial
 ·rename_i id s n lo m kd k h1 h2
  rw[h1]at hx;rw[h2]at hi
  split
  ·rename_i hs
   obtain⟨el,hu,hel⟩:=zO5 hs
   rintro⟨h0,hlt⟩
   obtain⟨ad,cap,hv,hm,hpos,hc⟩:=hx
   obtain⟨b,o,rfl⟩:=hpos (by omega)
   refine Yield.pure h (x:= .pointer (some ⟨b,o+k.toNat*s,none⟩)) ?_ ⟨b,o+k.toNat*s,rfl, ?_⟩
   ·simp[execOp,hv,yQ hi,Instr.indexAt,asIntOf,run_underlying hu,wH hel,h0,hlt,xP]
   ·rcases hc with hd|⟨rows,hσ,hn,hb⟩
    ·exact .inl hd
    ·refine .inr ⟨rows,hσ,hn,fun q1 q2=> ?_⟩
     obtain⟨b0,c0,hβ,hcap,hlo,hadr⟩:=hb q1
     obtain⟨k0,rfl,e⟩:=hadr (by omega)
     cases e
     exact⟨c0,hβ,by rw[Nat.add_mul];rfl⟩
  ·trivial
 ·rename_i id s off n kd k h1 h2
  rw[h1]at hx;rw[h2]at hi
  split
  ·rename_i hs
   obtain⟨el,hu,hel⟩:=zO5 hs
   rintro⟨h0,hlt⟩
   obtain⟨bl,hb,hv⟩:=hx
   refine Yield.pure h (x:= .pointer (some ⟨bl,off+k.toNat*s,none⟩)) ?_ ⟨bl,hb,rfl⟩
   simp[execOp,hv,yQ hi,Instr.indexAt,asIntOf,run_underlying hu,wH hel,h0,hlt,xP]
  ·trivial
 ·trivial
def zJ4 (x i:V) (str:Bool) (ar:Option (Nat×Nat×Bool)):R:=
 match x,i with
 | .str b,.int _ k=>if str then .need (0≤k∧k<b.length) (.int .u8 (b.getD k.toNat 0).toNat)else .fail
 | .agg cs,.int _ k=>(match ar with
  |some (n,s,false)=> .need (0≤k∧k<n∧(k.toNat*s)<cs.length) (cs.getD (k.toNat*s) .u)
  |_=> .fail)
 |_,_=> .fail
def strT (P:Program) (t:TypeId):Bool:=match P.underlying t with|some .string=>true|_=>false
theorem yQ9 {t:TypeId} (h:strT P t=true):P.underlying t=some .string:=by
 unfold strT at h
 split at h<;>first|assumption|simp at h
theorem xs7 {dst:Option Tmp} {ty:TypeId} {pos:String} {aft:Array Edge} {g:Option (Nat×Bool)} (t:TypeId) (x i:Operand) (h:Sim c nt e σ a w L β):
  ROk (zJ4 (zF e x) (zF e i) (strT P t) (arrT P t)) σ (Yield P c ⟨dst,.index t x i,ty,pos,aft,g⟩ a w L σ β):=by
 have hx:=h.eval x
 have hi:=h.eval i
 unfold zJ4
 split
 ·rename_i b kd k h1 h2
  rw[h1]at hx;rw[h2]at hi
  split
  ·rename_i hs
   have hu:=yQ9 hs
   rintro⟨h0,hlt⟩
   have hk:k.toNat<b.length:=by omega
   refine Yield.pure h (x:= .int .u8 (b.getD k.toNat 0).toNat) ?_ (RdP.int _ _)
   have hg:(ByteArray.mk b.toArray)[k.toNat]? =some (b.getD k.toNat 0):=by
    have:k.toNat<(ByteArray.mk b.toArray).size:=by simpa[ByteArray.size]using hk
    rw[getElem?_pos (ByteArray.mk b.toArray) k.toNat this]
    rw[List.getD_eq_getElem?_getD,List.getElem?_eq_getElem hk]
    rfl
   simp[execOp,wL hx,yQ hi,Instr.index,asIntOf,run_underlying hu,h0,hg]
  ·trivial
 ·rename_i cs kd k h1 h2
  rw[h1]at hx;rw[h2]at hi
  split
  ·rename_i n s hs
   obtain⟨el,hu,hel,hag⟩:=zD5 hs
   rintro⟨h0,hlt,hin⟩
   obtain⟨xs,hv,hall⟩:=hx
   obtain⟨y,hy,r⟩:=hall.get (k.toNat*s) _ (List.getElem?_eq_getElem hin)
   refine Yield.pure h (x:=y) ?_ (RdS.of_cell ?_)
   ·simp[execOp,hv,yQ hi,Instr.index,asIntOf,run_underlying hu,wH hel,h0,hlt,part,zl0 hag,hy]
   ·rw[List.getD_eq_getElem?_getD,List.getElem?_eq_getElem hin];exact r
  ·trivial
 ·trivial
theorem zj0 (l:List UInt8):(ByteArray.mk l.toArray).size=l.length:=by simp[ByteArray.size]
def lenT (P:Program) (t:TypeId):Nat:=
 match P.underlying t with
 |some .string=>1
 |some (.slice _)=>2
 |_=>0
theorem yF7 {t:TypeId} (h:lenT P t=1):P.underlying t=some .string:=by
 unfold lenT at h
 split at h<;>first|assumption|simp at h
theorem lenT2 {t:TypeId} (h:lenT P t=2): ∃el,P.underlying t=some (.slice el):=by
 unfold lenT at h
 split at h<;>first|exact⟨_,by assumption⟩|simp at h
def zQ1 (k:Nat) (x:V):R:=
 match x with
 | .sl _ rows=>if k=2 then .ok (.int .i64 rows.length)else .fail
 | .str s=>if k=1 then .ok (.int .i64 s.length)else .fail
 | .lsv _ _ _ _ m=>if k=2 then .ok (.int .i64 m)else .fail
 | .bsv _ _ _ n=>if k=2 then .ok (.int .i64 n)else .fail
 |_=> .fail
theorem xs8 {dst:Option Tmp} {ty:TypeId} {pos:String} {aft:Array Edge} {g:Option (Nat×Bool)} (t:TypeId) (x:Operand) (h:Sim c nt e σ a w L β):
  ROk (zQ1 (lenT P t) (zF e x)) σ (Yield P c ⟨dst,.call ⟨.builtin .len, #[x], #[t]⟩,ty,pos,aft,g⟩ a w L σ β):=by
 have hx:=h.eval x
 unfold zQ1
 split
 ·rename_i gg rows h1
  rw[h1]at hx
  obtain⟨a',cap,hv,_,_⟩:=(zs0 hx).len
  split
  ·rename_i hk
   obtain⟨el,hu⟩:=lenT2 hk
   exact Yield.pure h (x:= .int .i64 rows.length) (by simp[execOp,resolve,invoke,builtin,Builtin.len_,hv,run_underlying hu,goInt]) (RdP.int _ _)
  ·trivial
 ·rename_i s h1
  rw[h1]at hx
  split
  ·rename_i hk
   exact Yield.pure h (x:= .int .i64 s.length) (by simp[execOp,resolve,invoke,builtin,Builtin.len_,wL hx,run_underlying (yF7 hk),goInt,zj0]) (RdP.int _ _)
  ·trivial
 ·rename_i id s n lo m h1
  rw[h1]at hx
  obtain⟨ad,cap,hv,_⟩:=hx
  split
  ·rename_i hk
   obtain⟨el,hu⟩:=lenT2 hk
   exact Yield.pure h (x:= .int .i64 m) (by simp[execOp,resolve,invoke,builtin,Builtin.len_,hv,run_underlying hu,goInt]) (RdP.int _ _)
  ·trivial
 ·rename_i id s off n h1
  rw[h1]at hx
  obtain⟨bl,_,hv⟩:=hx
  split
  ·rename_i hk
   obtain⟨el,hu⟩:=lenT2 hk
   exact Yield.pure h (x:= .int .i64 n) (by simp[execOp,resolve,invoke,builtin,Builtin.len_,hv,run_underlying hu,goInt]) (RdP.int _ _)
  ·trivial
 ·trivial
def zv2 (isMax:Bool):List V→R
 | [.int k x,.int _ y]=> .ok (.int k (if isMax then(if y>x then y else x)else(if y<x then y else x)))
 | [.str x,.str y]=> .ok (.str (if isMax then(if Op.bytesLess x y then y else x)else(if(Op.bytesLess x y||x==y)then x else y)))
 | [.int k x,.int _ y,.int _ z]=> .ok (.int k (if isMax then(let m:=if y>x then y else x;if z>m then z else m)else(let m:=if y<x then y else x;if z<m then z else m)))
 |_=> .fail
theorem yZ7 {dst:Option Tmp} {ty:TypeId} {pos:String} {aft:Array Edge} {g:Option (Nat×Bool)} (ts:Array TypeId) (xs:List Operand) (isMax:Bool) (h:Sim c nt e σ a w L β):
  ROk (zv2 isMax (xs.map (zF e))) σ (Yield P c ⟨dst,.call ⟨.builtin (if isMax then .max else .min),xs.toArray,ts⟩,ty,pos,aft,g⟩ a w L σ β):=by
 unfold zv2
 split
 ·rename_i k m k' n hl
  obtain⟨x,y,rfl⟩: ∃x y,xs= [x,y]:=by
   cases xs with
   |nil=>simp at hl
   |cons x xs=>cases xs with
    |nil=>simp at hl
    |cons y xs=>cases xs with
     |nil=>exact⟨x,y,rfl⟩
     |cons z xs=>simp at hl
  simp at hl
  have e1:=yQ (hl.1▸h.eval x);have e2:=yQ (hl.2▸h.eval y)
  cases isMax
  ·exact Yield.pure h (x:= .int k (if n<m then n else m)) (by simp[execOp,resolve,invoke,builtin,Builtin.min_,Builtin.min2,e1,e2]) (RdP.int _ _)
  ·exact Yield.pure h (x:= .int k (if n>m then n else m)) (by simp[execOp,resolve,invoke,builtin,Builtin.max_,Builtin.max2,e1,e2]) (RdP.int _ _)
 ·rename_i m n hl
  obtain⟨x,y,rfl⟩: ∃x y,xs= [x,y]:=by
   cases xs with
   |nil=>simp at hl
   |cons x xs=>cases xs with
    |nil=>simp at hl
    |cons y xs=>cases xs with
     |nil=>exact⟨x,y,rfl⟩
     |cons z xs=>simp at hl
  simp at hl
  have e1:=wL (hl.1▸h.eval x);have e2:=wL (hl.2▸h.eval y)
  cases isMax
  ·refine Yield.pure h (x:= .string ⟨(if(Op.bytesLess m n||m==n)then m else n).toArray⟩) ?_ (RdP.str _)
   simp[execOp,resolve,invoke,builtin,Builtin.min_,Builtin.min2,e1,e2,Op.stringOp,asBool]
   split<;>rfl
  ·refine Yield.pure h (x:= .string ⟨(if Op.bytesLess m n then n else m).toArray⟩) ?_ (RdP.str _)
   simp[execOp,resolve,invoke,builtin,Builtin.max_,Builtin.max2,e1,e2,Op.stringOp,asBool]
   cases Op.bytesLess m n<;>rfl
 ·rename_i k m k' n k'' q hl
  obtain⟨x,y,z,rfl⟩: ∃x y z,xs= [x,y,z]:=by
   cases xs with
   |nil=>simp at hl
   |cons x xs=>cases xs with
    |nil=>simp at hl
    |cons y xs=>cases xs with
     |nil=>simp at hl
     |cons z xs=>cases xs with
      |nil=>exact⟨x,y,z,rfl⟩
      |cons _ _=>simp at hl
  simp at hl
  have e1:=yQ (hl.1▸h.eval x);have e2:=yQ (hl.2.1▸h.eval y);have e3:=yQ (hl.2.2▸h.eval z)
  cases isMax
  ·exact Yield.pure h (x:= .int k (let p:=if n<m then n else m;if q<p then q else p)) (by simp[execOp,resolve,invoke,builtin,Builtin.min_,Builtin.min2,e1,e2,e3]) (RdP.int _ _)
  ·exact Yield.pure h (x:= .int k (let p:=if n>m then n else m;if q>p then q else p)) (by simp[execOp,resolve,invoke,builtin,Builtin.max_,Builtin.max2,e1,e2,e3]) (RdP.int _ _)
 ·trivial
end
end Go.Vx
