/-
  Structs held against each other: bools, numbers and texts, cell by cell.
  No condition: a library text; nothing of the program is named.
-/
import Derived.WalkKit
import Derived.Deep.AppendSrc
import Derived.Laws.StructEq
import Derived.Laws.BytesArg
import Derived.Laws.IdiomStrings
set_option maxHeartbeats 8000000
namespace Go
theorem om{p:Prop}(h:p:=by omega):p:=h
theorem sg{p:Prop}(h:p:=by simp[go_sem]):p:=h
theorem kR{p:Prop}(h:p:=by kernel_rfl):p:=h
theorem dC{p:Prop}(h:p:=by decide):p:=h
theorem sm{p:Prop}(h:p:=by simp):p:=h
theorem tV:True:=⟨⟩
theorem A0:type_of%@List.getElem?_eq_getElem:=@List.getElem?_eq_getElem
theorem A3:type_of%@List.getElem?_eq_some_iff:=@List.getElem?_eq_some_iff
theorem A4:type_of%@Nat.zero_le:=@Nat.zero_le
theorem A5:type_of%@Nat.le_refl:=@Nat.le_refl
theorem A6:type_of%@Bool.and_eq_true:=@Bool.and_eq_true
theorem A7:type_of%@List.getD_eq_getElem?_getD:=@List.getD_eq_getElem?_getD
theorem A8:type_of%@List.drop_eq_getElem_cons:=@List.drop_eq_getElem_cons
theorem A9:type_of%@Bool.eq_false_or_eq_true:=@Bool.eq_false_or_eq_true
theorem Aa:type_of%@List.getElem_mem:=@List.getElem_mem
theorem Ab:type_of%@List.drop_eq_nil_of_le:=@List.drop_eq_nil_of_le
theorem Ac:type_of%@List.mem_map:=@List.mem_map
theorem Ad:type_of%@Nat.zero_add:=@Nat.zero_add
theorem Ae:type_of%@List.mem_cons:=@List.mem_cons
theorem Af:type_of%@List.all_eq_true:=@List.all_eq_true
theorem Ag:type_of%@List.length_cons:=@List.length_cons
theorem Ah:type_of%@List.getElem?_append_left:=@List.getElem?_append_left
theorem Ai:type_of%@List.getElem?_take:=@List.getElem?_take
theorem Aj:type_of%@List.map_cons:=@List.map_cons
theorem Ak:type_of%@List.length_append:=@List.length_append
theorem Al:type_of%@List.take_of_length_le:=@List.take_of_length_le
theorem Am:type_of%@List.getElem?_append_right:=@List.getElem?_append_right
theorem An:type_of%@List.mem_cons_of_mem:=@List.mem_cons_of_mem
theorem Ao:type_of%@Nat.mul_le_mul_right:=@Nat.mul_le_mul_right
theorem Ap:type_of%@Array.getElem?_toList:=@Array.getElem?_toList
theorem Aq:type_of%@List.mem_iff_getElem?:=@List.mem_iff_getElem?
theorem Ar:type_of%@List.all_cons:=@List.all_cons
theorem As:type_of%@List.mem_of_getElem?:=@List.mem_of_getElem?
theorem Au:type_of%@List.mem_cons_self:=@List.mem_cons_self
theorem Av:type_of%@List.mem_append:=@List.mem_append
theorem Aw:type_of%@List.mem_filter:=@List.mem_filter
theorem Ax:type_of%@Nat.le_trans:=@Nat.le_trans
theorem Ay:type_of%@Int.toNat_natCast:=@Int.toNat_natCast
theorem Az:type_of%@List.append_nil:=@List.append_nil
theorem B0:type_of%@Option.map_eq_some_iff:=@Option.map_eq_some_iff
theorem B1:type_of%@List.length_map:=@List.length_map
theorem B2:type_of%@List.getElem?_map:=@List.getElem?_map
theorem B3:type_of%@Option.bind_some:=@Option.bind_some
theorem B4:type_of%@Nat.add_mul:=@Nat.add_mul
theorem B5:type_of%@Bool.true_and:=@Bool.true_and
theorem B6:type_of%@List.map_congr_left:=@List.map_congr_left
theorem B7:type_of%@List.eq_nil_of_length_eq_zero:=@List.eq_nil_of_length_eq_zero
theorem B8:type_of%@Option.map_some:=@Option.map_some
theorem B9:type_of%@Array.getElem?_eq_getElem:=@Array.getElem?_eq_getElem
theorem Ba:type_of%@List.getElem?_set_self:=@List.getElem?_set_self
theorem Bb:type_of%@List.foldl_cons:=@List.foldl_cons
theorem Bc:type_of%@Nat.not_lt_zero:=@Nat.not_lt_zero
theorem Be:type_of%@List.not_mem_nil:=@List.not_mem_nil
theorem Bf:type_of%@List.take_append_drop:=@List.take_append_drop
theorem Bg:type_of%@List.drop_zero:=@List.drop_zero
theorem Bh:type_of%@List.getElem?_eq_none:=@List.getElem?_eq_none
theorem Bi:type_of%@List.length_take:=@List.length_take
theorem Bj:type_of%@List.getElem?_drop:=@List.getElem?_drop
theorem Bk:type_of%@List.map_map:=@List.map_map
theorem Bl:type_of%@List.mem_singleton:=@List.mem_singleton
theorem Bm:type_of%@List.nodup_range:=@List.nodup_range
theorem Bn:type_of%@List.length_singleton:=@List.length_singleton
theorem Bo:type_of%@List.length_filter_le:=@List.length_filter_le
theorem Bp:type_of%@Array.getElem?_eq_some_iff:=@Array.getElem?_eq_some_iff
theorem Bq:type_of%@List.drop_of_length_le:=@List.drop_of_length_le
theorem Br:type_of%@Nat.lt_trichotomy:=@Nat.lt_trichotomy
theorem Bs:type_of%@List.mem_of_mem_take:=@List.mem_of_mem_take
theorem Bt:type_of%@List.ext_getElem?:=@List.ext_getElem?
theorem Bu:type_of%@List.getElem?_set_ne:=@List.getElem?_set_ne
theorem Bv:type_of%@Bool.or_eq_true:=@Bool.or_eq_true
theorem Bw:type_of%@List.pairwise_cons:=@List.pairwise_cons
theorem Bx:type_of%@List.map_nil:=@List.map_nil
theorem By:type_of%@Nat.not_succ_le_self:=@Nat.not_succ_le_self
theorem Bz:type_of%@List.cons_append:=@List.cons_append
theorem C0:type_of%@List.take_succ_eq_append_getElem:=@List.take_succ_eq_append_getElem
theorem C1:type_of%@List.flatMap_cons:=@List.flatMap_cons
theorem C2:type_of%@List.pairwise_map:=@List.pairwise_map
theorem C3:type_of%@List.mem_range:=@List.mem_range
theorem C4:type_of%@List.getElem?_range:=@List.getElem?_range
theorem C5:type_of%@List.filter_sublist:=@List.filter_sublist
theorem C6:type_of%@List.mem_of_mem_drop:=@List.mem_of_mem_drop
theorem C7:type_of%@List.flatten_append:=@List.flatten_append
theorem C8:type_of%@List.take_succ_cons:=@List.take_succ_cons
theorem C9:type_of%@List.nodup_cons:=@List.nodup_cons
theorem Ca:type_of%@List.map_append:=@List.map_append
theorem Cb:type_of%@Bool.false_or:=@Bool.false_or
theorem Cc:type_of%@List.length_range:=@List.length_range
theorem Cd:type_of%@List.pairwise_append:=@List.pairwise_append
theorem Ce:type_of%@List.takeWhile_append_dropWhile:=@List.takeWhile_append_dropWhile
theorem Cf:type_of%@Nat.lt_or_ge:=@Nat.lt_or_ge
theorem Cg:type_of%@List.set_cons_succ:=@List.set_cons_succ
theorem Ch:type_of%@List.all_nil:=@List.all_nil
theorem Ci:type_of%@Nat.le_of_ble_eq_true:=@Nat.le_of_ble_eq_true
theorem Cj:type_of%@Nat.min_eq_left:=@Nat.min_eq_left
theorem Ck:type_of%@List.filter_cons:=@List.filter_cons
theorem Cl:type_of%@Int.fdiv_eq_ediv_of_nonneg:=@Int.fdiv_eq_ediv_of_nonneg
theorem Cm:type_of%@Bool.and_true:=@Bool.and_true
theorem Cn:type_of%@List.any_eq_true:=@List.any_eq_true
theorem Co:type_of%@List.nodup_append:=@List.nodup_append
theorem Cp:type_of%@List.take_append_of_le_length:=@List.take_append_of_le_length
theorem Cq:type_of%@List.mem_or_eq_of_mem_set:=@List.mem_or_eq_of_mem_set
theorem Cr:type_of%@Int.cast_ofNat_Int:=@Int.cast_ofNat_Int
theorem Cs:type_of%@List.nil_append:=@List.nil_append
theorem Ct:type_of%@Nat.mod_eq_of_lt:=@Nat.mod_eq_of_lt
theorem Cu:type_of%@Array.length_toList:=@Array.length_toList
theorem Cw:type_of%@Nat.div_lt_iff_lt_mul:=@Nat.div_lt_iff_lt_mul
theorem Cx:type_of%@Nat.one_mul:=@Nat.one_mul
theorem Cy:type_of%@List.append_assoc:=@List.append_assoc
theorem Cz:type_of%@List.getElem?_cons_succ:=@List.getElem?_cons_succ
theorem D0:type_of%@Bool.false_eq_true:=@Bool.false_eq_true
theorem D1:type_of%@Nat.add_zero:=@Nat.add_zero
theorem D2:type_of%@Nat.le_of_eq:=@Nat.le_of_eq
theorem D3:type_of%@List.mem_append_left:=@List.mem_append_left
theorem D4:type_of%@Bool.eq_iff_iff:=@Bool.eq_iff_iff
theorem D5:type_of%@List.take_left':=@List.take_left'
theorem D6:type_of%@List.drop_length:=@List.drop_length
theorem D7:type_of%@List.getElem_map:=@List.getElem_map
theorem D8:type_of%@Bool.not_eq_true':=@Bool.not_eq_true'
theorem D9:type_of%@List.nodup_nil:=@List.nodup_nil
theorem Da:type_of%@List.getElem?_take_of_lt:=@List.getElem?_take_of_lt
theorem Db:type_of%@List.length_set:=@List.length_set
theorem Dc:type_of%@List.set_cons_zero:=@List.set_cons_zero
theorem Dd:type_of%@List.filter_append:=@List.filter_append
theorem De:type_of%@List.length_drop:=@List.length_drop
theorem Df:type_of%@Array.all_eq_true_iff_forall_mem:=@Array.all_eq_true_iff_forall_mem
theorem Dg:type_of%@List.mem_iff_getElem:=@List.mem_iff_getElem
theorem Dh:type_of%@Nat.mul_comm:=@Nat.mul_comm
theorem Di:type_of%@List.exists_cons_of_ne_nil:=@List.exists_cons_of_ne_nil
theorem Dj:type_of%@Nat.zero_mul:=@Nat.zero_mul
theorem Dk:type_of%@List.flatten_cons:=@List.flatten_cons
theorem Dl:type_of%@List.foldl_append:=@List.foldl_append
theorem Dm:type_of%@List.drop_succ_cons:=@List.drop_succ_cons
theorem Dn:type_of%@List.getElem_of_mem:=@List.getElem_of_mem
theorem Do:type_of%@Nat.mod_lt:=@Nat.mod_lt
theorem Dp:type_of%@List.length_nil:=@List.length_nil
theorem Dq:type_of%@List.pairwise_iff_getElem:=@List.pairwise_iff_getElem
theorem Dr:type_of%@List.mem_flatMap:=@List.mem_flatMap
theorem Ds:type_of%@Nat.add_assoc:=@Nat.add_assoc
theorem Dt:type_of%@List.take_zero:=@List.take_zero
theorem Du:type_of%@List.take_add_one:=@List.take_add_one
theorem Dv:type_of%@Nat.div_add_mod:=@Nat.div_add_mod
theorem Dw:type_of%@List.filter_eq_self:=@List.filter_eq_self
theorem Dx:type_of%@Bool.true_or:=@Bool.true_or
theorem Dy:type_of%@List.takeWhile_cons_of_pos:=@List.takeWhile_cons_of_pos
theorem Dz:type_of%@List.take_length:=@List.take_length
theorem E0:type_of%@List.perm_middle:=@List.perm_middle
theorem E1:type_of%@List.contains_iff_mem:=@List.contains_iff_mem
theorem E2:type_of%@List.contains_cons:=@List.contains_cons
theorem E3:type_of%@List.set_append_left:=@List.set_append_left
theorem E4:type_of%@List.take_take:=@List.take_take
theorem E5:type_of%@Array.getElem?_setIfInBounds:=@Array.getElem?_setIfInBounds
theorem E6:type_of%@Nat.lt_of_lt_of_le:=@Nat.lt_of_lt_of_le
theorem E7:type_of%@List.map_id':=@List.map_id'
theorem E8:type_of%@List.map_set:=@List.map_set
theorem E9:type_of%@List.filter_filter:=@List.filter_filter
theorem Ea:type_of%@List.mem_append_right:=@List.mem_append_right
theorem Eb:type_of%@List.all_append:=@List.all_append
theorem Ec:type_of%@Array.getElem?_append_left:=@Array.getElem?_append_left
theorem Ed:type_of%@List.filter_congr:=@List.filter_congr
theorem Ee:type_of%@Int.lt_trichotomy:=@Int.lt_trichotomy
theorem Ef:type_of%@List.getElem?_mapIdx:=@List.getElem?_mapIdx
theorem Eg:type_of%@Classical.byContradiction:=@Classical.byContradiction
theorem Eh:type_of%@Bool.false_and:=@Bool.false_and
theorem Ei:type_of%@Nat.add_comm:=@Nat.add_comm
theorem Ej:type_of%@List.flatMap_append:=@List.flatMap_append
theorem Ek:type_of%@Int.eq_ofNat_of_zero_le:=@Int.eq_ofNat_of_zero_le
theorem El:type_of%@Nat.mul_assoc:=@Nat.mul_assoc
theorem Em:type_of%@List.zip_cons_cons:=@List.zip_cons_cons
theorem En:type_of%@Int.emod_lt_of_pos:=@Int.emod_lt_of_pos
theorem Eo:type_of%@List.getElem_take:=@List.getElem_take
theorem Ep:type_of%@Bool.or_true:=@Bool.or_true
theorem Eq:type_of%@List.foldl_nil:=@List.foldl_nil
theorem Er:type_of%@List.getElem_inj:=@List.getElem_inj
theorem Es:type_of%@Nat.lt_succ_self:=@Nat.lt_succ_self
theorem Et:type_of%@Prod.ext:=@Prod.ext
theorem Eu:type_of%@List.map_drop:=@List.map_drop
theorem Ev:type_of%@UInt8.toNat_inj:=@UInt8.toNat_inj
theorem Ew:type_of%@Int.emod_nonneg:=@Int.emod_nonneg
theorem Ex:type_of%@Nat.pow_succ:=@Nat.pow_succ
end Go
namespace Go.Vx
open Go
inductive Tag where|ro|full|app(id:Nat)deriving DecidableEq
inductive V where|u|bool(b:Bool)|int(k:IntKind)(n:Int)|str(s:List UInt8)|raw(v:Value)|nilp|ptr(id off:Nat)|sl(g:Tag)(rows:List (List V))|elp(cells:List V)(off:Nat)|fn(f:FuncId)(caps:List V)|agg(cells:List V)|tup(vs:List V)|lsv(id s n lo m:Nat)|lsp(id s n k j:Nat)|bsv(id s off n:Nat)|mp(id:Nat)|ifc(t:Nat)(vs:List V)
instance:Inhabited V:=⟨.u⟩
variable {α:Type}{β:Type}
def All2{α β:Type}(R:α->β->Prop):List α->List β->Prop|[],[]=>True|a::az,b::bs=>R a b/\All2 R az bs|_,_=>False
theorem All2.length{R:α->β->Prop}:∀{l:List α}{m:List β},All2 R l m->l.length=m.length |[],[],_=>rfl|_::_,_::_,h=>by simp[All2.length h.2]|[],_::_,h=>h.elim|_::_,[],h=>h.elim
theorem All2.imp{R S:α->β->Prop}(aa:∀a b,R a b->S a b):∀{l:List α}{m:List β},All2 R l m->All2 S l m |[],[],_=>trivial|_::_,_::_,h=>⟨aa _ _ h.1,All2.imp aa h.2⟩|[],_::_,h=>h.elim|_::_,[],h=>h.elim
theorem All2.get{R:α->β->Prop}:∀{l:List α}{m:List β}(i:Nat)(a:α),All2 R l m->l[i]?=some a->∃b,m[i]?=some b/\R a b
 |a::_,b::_,0,_,h,e=>⟨b,rfl,by simp at e;exact e▸h.1⟩|_::_,_::_,i+1,_,h,e=>by obtain⟨b,hb,r⟩:=All2.get i _ h.2 (by simpa using e);grind|[],[],_,_,_,e=>by grind|[],_::_,_,_,h,_=>h.elim|_::_,[],_,_,h,_=>h.elim
theorem All2.of{R:α->β->Prop}:∀{l:List α}{m:List β},l.length=m.length->(∀(i:Nat)a b,l[i]?=some a->m[i]?=some b->R a b)->All2 R l m |[],[],_,_=>trivial|a::l,b::m,hl,h=>⟨h 0 a b rfl rfl,All2.of (by grind) λi x y hx hy=>h (i+1) x y (by grind) (by grind)⟩|[],_::_,hl,_=>by grind|_::_,[],hl,_=>by grind
theorem All2.append{R:α->β->Prop}:∀{l:List α}{m:List β}{l':List α}{m':List β},All2 R l m->All2 R l' m'->All2 R (l++l') (m++m') |[],[],_,_,_,h'=>h'|_::_,_::_,_,_,h,h'=>⟨h.1,All2.append h.2 h'⟩|[],_::_,_,_,h,_=>h.elim|_::_,[],_,_,h,_=>h.elim
theorem All2.take{R:α->β->Prop}:∀{l:List α}{m:List β}(n:Nat),All2 R l m->All2 R (l.take n) (m.take n)|[],[],n,_=>by grind|_::_,_::_,0,_=>trivial|_::_,_::_,n+1,h=>⟨h.1,All2.take n h.2⟩|[],_::_,_,h=>h.elim|_::_,[],_,h=>h.elim
theorem All2.drop{R:α->β->Prop}:∀{l:List α}{m:List β}(n:Nat),All2 R l m->All2 R (l.drop n) (m.drop n)|[],[],n,_=>by grind|_::_,_::_,0,h=>h|_::_,_::_,n+1,h=>All2.drop n h.2|[],_::_,_,h=>h.elim|_::_,[],_,h=>h.elim
theorem wb1{i j n s:Nat}(hi:i<n)(hj:j<s):i*s+j<n*s:=by have h:(i+1)*s<=n*s:=Ao s hi;grind
inductive RdP(w:World)(L:Nat->Nat):V->Value->Prop|bool(b:Bool):RdP w L (.bool b) (.bool b)|int(k:IntKind)(n:Int):RdP w L (.int k n) (.int k n)|str(s:List UInt8):RdP w L (.str s) (.string ⟨s.toArray⟩)|raw(v:Value)(h:v.oneCell'=true):RdP w L (.raw v) v|nilp:RdP w L .nilp (.pointer none)|sl0(g:Tag)(a:Option Addr)(cap:Nat)(hg:g=.full->cap=0)(ha:∀id,g≠.app id):RdP w L (.sl g []) (.slice a 0 cap)|sl(g:Tag)(rows:List (List V))(s b o cap:Nat)(c:Nat->Nat->Value)(ha:∀id,g≠.app id)(hs:0<s)(hlen:∀r∈rows,r.length=s)(hlim:o+rows.length*s<=L b)(hcap:rows.length<=cap)(hg:g=.full->cap=rows.length)(hc:∀i j,i<rows.length->j<s->w.cell? ⟨b,o+i*s+j,none⟩=some (c i j))(hr:∀i j(hi:i<rows.length)(hj:j<rows[i].length),RdP w L (rows[i][j]) (c i j)):RdP w L (.sl g rows) (.slice (some ⟨b,o,none⟩) rows.length cap)
structure Le(w:World)(L:Nat->Nat)(w':World)(L':Nat->Nat):Prop where
 lim:∀b,L b<=L' b
 cell:∀b o,o<L b->w'.cell? ⟨b,o,none⟩=w.cell? ⟨b,o,none⟩
theorem Le.refl(w:World)(L:Nat->Nat):Le w L w L:=⟨om,sm⟩
theorem Le.trans{w1 w2 w3:World}{L1 L2 L3:Nat->Nat}(h:Le w1 L1 w2 L2)(k:Le w2 L2 w3 L3):Le w1 L1 w3 L3:=⟨λb=>Ax (h.lim b) (k.lim b),λb o ho=>(k.cell b o (E6 ho (h.lim b))).trans (h.cell b o ho)⟩
theorem RdP.mono{w w':World}{L L':Nat->Nat}(h:Le w L w' L'){v:V}{x:Value}(r:RdP w L v x):RdP w' L' v x:=by induction r with |bool b=>exact .bool b|int k n=>exact .int k n|str s=>exact .str s|raw v hv=>exact .raw v hv|nilp=>exact .nilp|sl0 g a cap hg ha=>exact .sl0 g a cap hg ha|sl g rows s b o cap c ha hs hlen hlim hcap hg hc hr ih=>refine .sl g rows s b o cap c ha hs hlen (Ax hlim (h.lim b)) hcap hg (λi j hi hj=>?_) ih;rw[h.cell b _ (by have:=wb1 hi hj;omega)];grind
theorem RdP.oneCell{w:World}{L:Nat->Nat}{v:V}{x:Value}(r:RdP w L v x):x.oneCell'=true:=by cases r<;>first|rfl|assumption
inductive Ob where|box(cells:List V)|app(n s:Nat)|lst(rows:List (List V))(s:Nat)|dead|mp(kvs:List V)(borns:List Nat)(clk:Nat)|it(m:Option Nat)(since:Nat)(seen:List Nat)(last:Nat)
abbrev St:=List Ob
def RdK(w:World)(L:Nat->Nat)(σ:St)(β:List Value):V->Value->Prop |.u,x=>x.oneCell'=true|.ptr id off,x=>∃b,β[id]?=some (.pointer (some ⟨b,0,none⟩))/\x=.pointer (some ⟨b,off,none⟩)|.sl (.app id) rows,x=>RdP w L (.sl .ro rows) x/\∃n s,σ[id]?=some (.app n s)/\rows.length<=n/\(rows.length=n->β[id]?=some x)/\(∀r∈rows,r.length=s)|.elp cells off,x=>∃(b o:Nat)(c:Nat->Value),x=.pointer (some ⟨b,o+off,none⟩)/\o+cells.length<=L b/\∀j(hj:j<cells.length),w.cell? ⟨b,o+j,none⟩=some (c j)/\RdP w L cells[j] (c j)|.lsv id s n lo m,x=>∃a cap,x=.slice a m cap/\(m<=cap/\n<=lo+cap)/\(0<cap->∃b o,a=some ⟨b,o,none⟩)/\(σ[id]?=some .dead∨∃rows,σ[id]?=some (.lst rows s)/\n<=rows.length/\(n=rows.length->∃b c0,β[id]?=some (.slice b n c0)/\cap=c0-lo/\lo<=c0/\(lo<c0->∃k,b=some ⟨k,0,none⟩/\a=some ⟨k,lo*s,none⟩)))|.lsp id s n k j,x=>∃b o,x=.pointer (some ⟨b,o,none⟩)/\(σ[id]?=some .dead∨∃rows,σ[id]?=some (.lst rows s)/\n<=rows.length/\(n=rows.length->k<n->∃c0,β[id]?=some (.slice (some ⟨b,0,none⟩) n c0)/\o=k*s+j))|.bsv id _ off n,x=>∃b,β[id]?=some (.pointer (some ⟨b,0,none⟩))/\x=.slice (some ⟨b,off,none⟩) n n|.mp id,x=>∃b,β[id]?=some (.pointer (some ⟨b,0,none⟩))/\x=.map (some b)|.fn _ _,_=>False|.agg _,_=>False|.tup _,_=>False|.ifc _ _,_=>False|v,x=>RdP w L v x
def RdC(w:World)(L:Nat->Nat)(σ:St)(β:List Value):V->Value->Prop |.fn f caps,x=>∃xs:List Value,x=.func (.func f) #[] xs.toArray/\All2 (RdK w L σ β) caps xs|.ifc t vs,x=>∃y,x=.iface t y/\All2 (RdK w L σ β) vs [y]|v,x=>RdK w L σ β v x
def RdA(w:World)(L:Nat->Nat)(σ:St)(β:List Value):V->Value->Prop |.agg cs,x=>∃xs:List Value,x=.agg xs.toArray/\All2 (RdC w L σ β) cs xs|v,x=>RdC w L σ β v x
def RdS(w:World)(L:Nat->Nat)(σ:St)(β:List Value):V->Value->Prop |.u,_=>True|.tup vs,x=>∃xs:List Value,x=.tuple xs.toArray/\All2 (RdA w L σ β) vs xs|v,x=>RdA w L σ β v x
structure Ext(σ:St)(β:List Value)(σ':St)(β':List Value):Prop where ptr:∀(id:Nat)a,β[id]?=some (.pointer a)->β'[id]?=some (.pointer a)app:∀(id:Nat)n s,σ[id]?=some (.app n s)->∃n',σ'[id]?=some (.app n' s)/\n<=n'/\(n'=n->β'[id]?=β[id]?)lst:∀(id:Nat)rows s,σ[id]?=some (.lst rows s)->σ'[id]?=some .dead∨∃rows',σ'[id]?=some (.lst rows' s)/\rows.length<=rows'.length/\(rows'.length=rows.length->β'[id]?=β[id]?)dead:∀(id:Nat),σ[id]?=some .dead->σ'[id]?=some .dead
theorem Ext.refl(σ:St)(β:List Value):Ext σ β σ β:=⟨sm,(by grind),(by grind),λ_ h=>h⟩
theorem Ext.trans{σ1 σ2 σ3:St}{β1 β2 β3:List Value}(h:Ext σ1 β1 σ2 β2)(k:Ext σ2 β2 σ3 β3):Ext σ1 β1 σ3 β3:=by
 refine⟨λid a e=>k.ptr id a (h.ptr id a e),λid n s e=>?_,λid rows s e=>?_,λid e=>k.dead id (h.dead id e)⟩;.obtain⟨n2,e2,l2,p2⟩:=h.app id n s e;obtain⟨n3,e3,l3,p3⟩:=k.app id n2 s e2;grind
 .rcases h.lst id rows s e with e2|⟨r2,e2,l2,p2⟩;.exact .inl (k.dead id e2)
  .rcases k.lst id r2 s e2 with e3|⟨r3,e3,l3,p3⟩;all_goals grind
section
variable{w w':World}{L L':Nat->Nat}{σ σ':St}{β β':List Value}
variable {x:Value}
theorem RdK.mono(h:Le w L w' L')(k:Ext σ β σ' β'){v:V}(r:RdK w L σ β v x):RdK w' L' σ' β' v x:=by cases v with
 |u=>exact r|ptr id off=>obtain⟨b,hb,hx⟩:=r;exact⟨b,k.ptr _ _ hb,hx⟩|sl g rows=>cases g with |app id=>obtain⟨hr,n,s,hσ,hle,hβ,hl⟩:=r;obtain⟨n',aa,hn,ab⟩:=k.app id n s hσ;refine⟨hr.mono h,n',s,aa,om,λe=>?_,hl⟩;grind|ro=>exact RdP.mono h r|full=>exact RdP.mono h r
 |elp cells off=>obtain⟨b,o,c,hx,hl,hc⟩:=r;refine⟨b,o,c,hx,Ax hl (h.lim b),λj hj=>?_⟩;obtain⟨h1,h2⟩:=hc j hj;exact⟨by rw[h.cell b _ om];exact h1,h2.mono h⟩|lsv id s n lo m=>
  obtain⟨a,cap,hx,hm,ha,hc⟩:=r;refine⟨a,cap,hx,hm,ha,?_⟩;rcases hc with hd|⟨rows,hσ,hn,hb⟩;.exact .inl (k.dead id hd)
  .rcases k.lst id rows s hσ with hd|⟨r2,e2,l2,p2⟩;all_goals grind|lsp id s n i j=>
  obtain⟨b,o,hx,hc⟩:=r;refine⟨b,o,hx,?_⟩;rcases hc with hd|⟨rows,hσ,hn,hb⟩;.exact .inl (k.dead id hd)
  .rcases k.lst id rows s hσ with hd|⟨r2,e2,l2,p2⟩;all_goals grind|bsv id s off n=>obtain⟨b,hb,hx⟩:=r;exact⟨b,k.ptr _ _ hb,hx⟩|mp id=>obtain⟨b,hb,hx⟩:=r;exact⟨b,k.ptr _ _ hb,hx⟩|fn f caps=>exact r|ifc t v=>exact r|agg cs=>exact r|tup vs=>exact r|bool b=>exact RdP.mono h r|int k n=>exact RdP.mono h r|str s=>exact RdP.mono h r|raw v=>exact RdP.mono h r|nilp=>exact RdP.mono h r
theorem RdC.mono(h:Le w L w' L')(k:Ext σ β σ' β'){v:V}(r:RdC w L σ β v x):RdC w' L' σ' β' v x:=by cases v with |fn f caps=>obtain⟨xs,hx,hc⟩:=r;exact⟨xs,hx,hc.imp (by grind[RdK.mono])⟩|ifc t v=>obtain⟨y,hx,hc⟩:=r;exact⟨y,hx,hc.imp (by grind[RdK.mono])⟩|_=>simp only[RdC]at r⊢;exact RdK.mono h k r
theorem RdA.mono(h:Le w L w' L')(k:Ext σ β σ' β'){v:V}(r:RdA w L σ β v x):RdA w' L' σ' β' v x:=by cases v with |agg cs=>obtain⟨xs,hx,hc⟩:=r;exact⟨xs,hx,hc.imp (by grind[RdC.mono])⟩|_=>simp only[RdA]at r⊢;exact RdC.mono h k r
theorem RdS.mono(h:Le w L w' L')(k:Ext σ β σ' β'){v:V}(r:RdS w L σ β v x):RdS w' L' σ' β' v x:=by cases v with |u=>trivial|tup vs=>obtain⟨xs,hx,hc⟩:=r;exact⟨xs,hx,hc.imp (by grind[RdA.mono])⟩|_=>simp only[RdS]at r⊢;exact RdA.mono h k r
theorem RdK.oneCell{v:V}(r:RdK w L σ β v x):x.oneCell'=true:=by cases v with
 |u=>exact r|ptr id off=>obtain⟨b,_,rfl⟩:=r;rfl|sl g rows=>cases g with |app id=>exact r.1.oneCell|ro=>exact RdP.oneCell r|full=>exact RdP.oneCell r
 |elp cells off=>obtain⟨b,o,c,rfl,_⟩:=r;rfl|lsv id s n lo m=>obtain⟨a,cap,rfl,_⟩:=r;rfl|lsp id s n k j=>obtain⟨b,o,rfl,_⟩:=r;rfl|bsv id s off n=>obtain⟨b,_,rfl⟩:=r;rfl|mp id=>obtain⟨b,_,rfl⟩:=r;rfl|fn f caps=>trivial|ifc t v=>trivial|agg cs=>trivial|tup vs=>trivial|_=>simp only[RdK]at r;exact RdP.oneCell r
theorem RdC.oneCell{v:V}(r:RdC w L σ β v x):x.oneCell'=true:=by cases v with |fn f caps=>obtain⟨xs,rfl,_⟩:=r;rfl|ifc t v=>obtain⟨y,rfl,_⟩:=r;rfl|_=>simp only[RdC]at r;exact RdK.oneCell r
theorem RdC.of_pure{v:V}(r:RdP w L v x):RdC w L σ β v x:=by cases r with
 |sl0 g a cap hg ha=>cases g with |app id=>grind|ro=>exact .sl0 _ a cap hg ha|full=>exact .sl0 _ a cap hg ha
 |sl g rows s b o cap c ha hs hlen hlim hcap hg hc hr=>cases g with |app id=>grind|ro=>exact .sl _ rows s b o cap c ha hs hlen hlim hcap hg hc hr|full=>exact .sl _ rows s b o cap c ha hs hlen hlim hcap hg hc hr
 |bool b=>exact RdP.bool b|int k n=>exact RdP.int k n|str s=>exact RdP.str s|raw _ hv=>exact RdP.raw _ hv|nilp=>exact RdP.nilp
theorem RdA.of_cell{v:V}(r:RdC w L σ β v x):RdA w L σ β v x:=by cases v<;>first|exact r|(simp only[RdA];exact r)|exact r.elim
theorem RdS.of_cell{v:V}(r:RdC w L σ β v x):RdS w L σ β v x:=by cases v<;>first|exact r|exact r.elim|trivial
theorem RdS.of_a{v:V}(r:RdA w L σ β v x):RdS w L σ β v x:=by cases v<;>first|exact r|exact r.elim|trivial
end
theorem eX{α:Sort _}(a:α):∃b,a=b:=⟨a,rfl⟩
def tabs:List (Nat×List V):= []
def vints:List (Nat×IntKind):=[(0,.i64)]
abbrev Env:=Nat->V
def upd(e:Env)(d:Nat)(v:V):Env:=λt=>if t=d then v else e t
def env0:Env:=fun _=> .u
structure Ctx where
 w0:World
 L0:Nat->Nat
 X0:List Nat
 σ0:St
 β0:List Value
def excl:Ob->Value->Option Nat |.box _,.pointer (some a)=>some a.block|.app n _,.slice (some a) _ cap=>if n<cap then some a.block else none|.lst _ _,.slice (some a) _ cap=>if 0<cap then some a.block else none|.mp _ _ _,.pointer (some a)=>some a.block|.it _ _ _ _,.pointer (some a)=>some a.block|_,_=>none
def zf4(arr:Array Value)(fz:Nat×Nat):Prop:=∀o,o<arr.size->¬(fz.1<=o/\o<fz.2)
def unfrozenL(s:Nat)(arr:Array Value)(fz:Nat×Nat):Prop:=zf4 arr fz/\(s=1∨¬(fz.1<=arr.size/\arr.size<fz.2))
def zy1(es:Array MapEntry):List Value:=es.toList.flatMap λe=>[e.key,e.val]
theorem ya4(s:Nat)(arr:Array Value):unfrozenL s arr (0,0):=⟨λq _ hq=>om,om⟩
theorem unfrozenL.size{s:Nat}{arr aa:Array Value}{fz:Nat×Nat}(h:unfrozenL s arr fz)(e:aa.size=arr.size):unfrozenL s aa fz:=⟨λq hq=>h.1 q om,by rw[e];exact h.2⟩
def ObOk(w:World)(L:Nat->Nat)(σ:St)(β:List Value):Ob->Value->Prop |.box cells,x=>∃b arr T fz,x=.pointer (some ⟨b,0,none⟩)/\w.heap[b]?=some (.cells arr T fz)/\zf4 arr fz/\L b=0/\All2 (RdC w L σ β) cells arr.toList|.app n s,x=>∃a cap,x=.slice a n cap/\n<=cap/\0<s/\(n<cap->∃b o arr T fz,a=some ⟨b,o,none⟩/\w.heap[b]?=some (.cells arr T fz)/\zf4 arr fz/\o+cap*s<=arr.size/\L b=o+n*s)|.lst rows s,x=>∃a cap,x=.slice a rows.length cap/\rows.length<=cap/\0<s/\(∀r∈rows,r.length=s)/\(0<cap->∃b arr T fz,a=some ⟨b,0,none⟩/\w.heap[b]?=some (.cells arr T fz)/\unfrozenL s arr fz/\cap*s<=arr.size/\L b=0/\All2 (RdC w L σ β) rows.flatten (arr.toList.take (rows.length*s)))|.dead,_=>True|.mp kvs borns clk,x=>∃b es,x=.pointer (some ⟨b,0,none⟩)/\w.heap[b]?=some (.map es clk)/\L b=0/\All2 (RdA w L σ β) kvs (zy1 es)/\es.toList.map (·.born)=borns|.it m since seen last,x=>∃b mo,x=.pointer (some ⟨b,0,none⟩)/\w.heap[b]?=some (.mapIter mo since seen.toArray last)/\L b=0/\(match m with|none=>mo=none|some id=>∃r,β[id]?=some (.pointer (some ⟨r,0,none⟩))/\mo=some r)
def wf2(w:World)(L:Nat->Nat)(g:Nat)(cells:List V):Prop:=cells.length<=L g/\∃c:Nat->Value,∀j(hj:j<cells.length),w.cell? ⟨g,j,none⟩=some (c j)/\RdP w L cells[j] (c j)
structure GlobOk(w:World)(L:Nat->Nat):Prop where tab:∀p∈tabs,wf2 w L p.1 p.2num:∀p∈vints,1<=L p.1/\∃m,w.cell? ⟨p.1,0,none⟩=some (.int p.2 m)
theorem GlobOk.mono{w w':World}{L L':Nat->Nat}(h:Le w L w' L')(r:GlobOk w L):GlobOk w' L':=by refine⟨λp hp=>(by trivial),λp hp=>?_⟩;obtain⟨h1,m,h2⟩:=r.num p hp;exact⟨Ax h1 (h.lim _),m,by rw[h.cell _ 0 om];exact h2⟩
structure Mem(c:Ctx)(w:World)(L:Nat->Nat)(σ:St)(β:List Value):Prop where
 len:β.length=σ.length
 objs:∀(i:Nat)o x,σ[i]?=some o->β[i]?=some x->ObOk w L σ β o x
 apart:∀(i j:Nat)o o' x x' b,i≠j->σ[i]?=some o->β[i]?=some x->σ[j]?=some o'->β[j]?=some x'->excl o x=some b->excl o' x'≠some b
 mine:∀(i:Nat)o x b,σ[i]?=some o->β[i]?=some x->excl o x=some b->c.w0.heap.size<=b∨b∈c.X0
 same:∀b,b<c.w0.heap.size->b∉c.X0->w.heap[b]?=c.w0.heap[b]?/\L b=c.L0 b
 le:Le c.w0 c.L0 w L
 size:c.w0.heap.size<=w.heap.size
 os:w.os=c.w0.os
 tape:w.tape=c.w0.tape
 output:w.output=c.w0.output
 drawn:c.w0.drawn<=w.drawn
 lim:∀b,w.heap.size<=b->L b=0
 ext:Ext c.σ0 c.β0 σ β
 tab:GlobOk c.w0 c.L0
theorem ObOk.step{w w':World}{L L':Nat->Nat}{σ σ':St}{β β':List Value}{o:Ob}{x:Value}(h:Le w L w' L')(k:Ext σ β σ' β')(hb:∀b,excl o x=some b->w'.heap[b]?=w.heap[b]?/\L' b=L b)(r:ObOk w L σ β o x):ObOk w' L' σ' β' o x:=by cases o with |box cells=>obtain⟨b,arr,T,fz,rfl,hh,hf,hl,hc⟩:=r;obtain⟨e1,e2⟩:=hb b rfl;exact⟨b,arr,T,fz,rfl,e1.trans hh,hf,e2.trans hl,hc.imp (by grind[RdC.mono])⟩|app n s=>obtain⟨a,cap,rfl,hn,hs,hx⟩:=r;refine⟨a,cap,rfl,hn,hs,λaa=>?_⟩;obtain⟨b,o,arr,T,fz,rfl,hh,hf,ab,hl⟩:=hx aa;obtain⟨e1,e2⟩:=hb b (by simp[excl,aa]);grind|lst rows s=>obtain⟨a,cap,rfl,hn,hs,hu,hx⟩:=r;refine⟨a,cap,rfl,hn,hs,hu,λaa=>?_⟩;obtain⟨b,arr,T,fz,rfl,hh,hf,ab,hl,hc⟩:=hx aa;obtain⟨e1,e2⟩:=hb b (by simp[excl,aa]);exact⟨b,arr,T,fz,rfl,e1.trans hh,hf,ab,e2.trans hl,hc.imp (by grind[RdC.mono])⟩|dead=>trivial|mp kvs borns clk=>obtain⟨b,es,rfl,hh,hl,hc,ad⟩:=r;obtain⟨e1,e2⟩:=hb b rfl;exact⟨b,es,rfl,e1.trans hh,e2.trans hl,hc.imp (by grind[RdA.mono]),ad⟩|it m since seen last=>obtain⟨b,mo,rfl,hh,hl,hc⟩:=r;obtain⟨e1,e2⟩:=hb b rfl;refine⟨b,mo,rfl,e1.trans hh,e2.trans hl,?_⟩;cases m with |none=>exact hc|some id=>obtain⟨q,hq,hm⟩:=hc;exact⟨q,k.ptr _ _ hq,hm⟩
theorem ObOk.excl_lt{w:World}{L:Nat->Nat}{σ:St}{β:List Value}{o:Ob}{x:Value}{b:Nat}(r:ObOk w L σ β o x)(h:excl o x=some b):b<w.heap.size:=by cases o with |box cells=>obtain⟨b',arr,T,fz,rfl,hh,_⟩:=r;grind[excl]|app n s=>obtain⟨a,cap,rfl,hn,hs,hx⟩:=r;cases a<;>grind[excl]|lst rows s=>obtain⟨a,cap,rfl,hn,hs,hu,hx⟩:=r;cases a<;>grind[excl]|dead=>trivial|mp kvs borns clk=>obtain⟨b',es,rfl,hh,_⟩:=r;grind[excl]|it m since seen last=>obtain⟨b',mo,rfl,hh,_⟩:=r;grind[excl]
section
variable{c:Ctx}{w:World}{L:Nat->Nat}{σ:St}{β:List Value}
variable {i:Nat}{α:Type}{cells:List V}
theorem Mem.drew(h:Mem c w L σ β):Mem c w.drew L σ β/\Le w L w.drew L:=by have hle:Le w L w.drew L:=⟨om,sm⟩;refine⟨⟨h.len,λi o x hi hx=>(h.objs i o x hi hx).step hle (Ext.refl _ _) λb hb=>(by trivial),h.apart,h.mine,h.same,h.le.trans hle,h.size,h.os,h.tape,h.output,Nat.le_succ_of_le h.drawn,h.lim,h.ext,h.tab⟩,hle⟩
def xF(L:Nat->Nat)(b n:Nat):Nat->Nat:=λk=>if k=b then n else L k
theorem yH(w:World)(o:Go.Obj):(w.alloc o).heap[w.heap.size]?=some o:=by show(w.heap.push o)[w.heap.size]?=_;simp
theorem zj8(w:World)(o:Go.Obj){k:Nat}(h:k<w.heap.size):(w.alloc o).heap[k]?=w.heap[k]?:=by show(w.heap.push o)[k]?=_;grind
theorem zd2{w w':World}{b:Nat}(h:w'.heap[b]?=w.heap[b]?)(o:Nat):w'.cell? ⟨b,o,none⟩=w.cell? ⟨b,o,none⟩:=by grind[World.cell?]
theorem Mem.alloc(h:Mem c w L σ β)(o:Go.Obj)(m:Nat):Mem c (w.alloc o) (xF L w.heap.size m) σ β/\Le w L (w.alloc o) (xF L w.heap.size m):=by
 have hL:∀b,b<w.heap.size->xF L w.heap.size m b=L b:=(by grind[xF]);have hle:Le w L (w.alloc o) (xF L w.heap.size m):=by
  refine⟨λb=>?_,λb off ho=>?_⟩
  .by_cases hb:b=w.heap.size;.subst hb;rw[h.lim _ om];omega
   grind[xF]
  .have hb:b<w.heap.size:=by
    rcases Cf b w.heap.size with hb|hb;.exact hb
    .rw[h.lim b hb]at ho;omega
   grind[zd2,zj8]
 refine⟨⟨h.len,λi ob x hi hx=>(h.objs i ob x hi hx).step hle (Ext.refl _ _) λb hb=>?_,h.apart,h.mine,λb hb hx=>?_,h.le.trans hle,?_,h.os,h.tape,h.output,h.drawn,λb hb=>?_,h.ext,h.tab⟩,hle⟩;.have aa:=(h.objs i ob x hi hx).excl_lt hb;grind[zj8]
 .have aa:b<w.heap.size:=E6 hb h.size;rw[zj8 w o aa,hL b aa];exact h.same b hb hx
 .simp;have:=h.size;omega
 .simp at hb;simp[xF];rw[if_neg om];exact h.lim b om
theorem Ext.push(σ:St)(β:List Value)(hl:β.length=σ.length)(o:Ob)(x:Value):Ext σ β (σ++[o]) (β++[x]):=by refine⟨(by grind),(by grind),(by grind),(by grind)⟩;all_goals grind
theorem getElem?_push{l:List α}{a b:α}(h:(l++[a])[i]?=some b):(i<l.length/\l[i]?=some b)∨(i=l.length/\b=a):=by grind
theorem Mem.push(h:Mem c w L σ β)(o:Ob)(x:Value)(ho:ObOk w L (σ++[o]) (β++[x]) o x)(aj:∀(i:Nat)o' x' b,σ[i]?=some o'->β[i]?=some x'->excl o' x'=some b->excl o x≠some b)(hm:∀b,excl o x=some b->c.w0.heap.size<=b∨b∈c.X0):Mem c w L (σ++[o]) (β++[x]):=by
 have ad:=Ext.push σ β h.len o x;refine⟨by simp[h.len],λi o' x' hi hx=>?_,λi j o1 o2 x1 x2 b ag hi ae hj ab hb=>?_,λi o' x' b hi hx hb=>?_,h.same,h.le,h.size,h.os,h.tape,h.output,h.drawn,h.lim,h.ext.trans ad,h.tab⟩
 .rcases getElem?_push hi with⟨hl,hi⟩|⟨hl,rfl⟩
  .rcases getElem?_push hx with⟨_,hx⟩|⟨aa,_⟩;.exact(h.objs i o' x' hi hx).step (Le.refl _ _) ad sm
   .rw[h.len]at aa;omega
  .rcases getElem?_push hx with⟨aa,hx⟩|⟨_,rfl⟩;.rw[h.len]at aa;omega
   omega
 .rcases getElem?_push hi with⟨hl,ah⟩|⟨hl,rfl⟩
  .rcases getElem?_push ae with⟨_,af⟩|⟨aa,_⟩
   .rcases getElem?_push hj with⟨ai,hj⟩|⟨ai,rfl⟩
    .rcases getElem?_push ab with⟨_,ab⟩|⟨aa,_⟩;.exact h.apart i j o1 o2 x1 x2 b ag ah af hj ab hb
     .rw[h.len]at aa;omega
    .rcases getElem?_push ab with⟨aa,_⟩|⟨_,rfl⟩;.rw[h.len]at aa;omega
     grind
   .rw[h.len]at aa;omega
  .rcases getElem?_push ae with⟨aa,_⟩|⟨_,rfl⟩;.rw[h.len]at aa;omega
   grind
 .rcases getElem?_push hi with⟨hl,hi⟩|⟨hl,rfl⟩
  .rcases getElem?_push hx with⟨_,hx⟩|⟨aa,_⟩;.exact h.mine i o' x' b hi hx hb
   .rw[h.len]at aa;omega
  .rcases getElem?_push hx with⟨aa,_⟩|⟨_,rfl⟩;.rw[h.len]at aa;omega
   grind
theorem Mem.box(h:Mem c w L σ β)(cells:List V)(arr:Array Value)(T:TypeId)(hc:All2 (RdC w L σ β) cells arr.toList):Mem c (w.alloc (.cells arr T)) L (σ++[.box cells]) (β++[.pointer (some ⟨w.heap.size,0,none⟩)])/\Le w L (w.alloc (.cells arr T)) L:=by
 have h1:=h.alloc (.cells arr T) 0;have hL:xF L w.heap.size 0=L:=by
  funext k;by_cases hk:k=w.heap.size;.subst hk;simp[xF,h.lim _ (A5 _)]
  grind[xF]
 rw[hL]at h1;refine⟨h1.1.push _ _ ⟨w.heap.size,arr,T,(0,0),rfl,yH _ _,λo _ h=>om,h.lim _ om,hc.imp λ_ _=>RdC.mono h1.2 (Ext.push σ β h.len _ _)⟩ ?_ ?_,h1.2⟩;.intro i o' x' b hi hx hb e;have:=(h.objs i o' x' hi hx).excl_lt hb;grind[excl]
 .intro b hb;simp[excl]at hb;subst hb;exact .inl h.size
def zX(w:World)(b:Nat)(o:Go.Obj):World:={w with heap:=w.heap.setIfInBounds b o}
theorem xC(w:World)(b:Nat)(o:Go.Obj)(hb:b<w.heap.size):(zX w b o).heap[b]?=some o:=by grind[zX]
theorem wW(w:World)(b k:Nat)(o:Go.Obj)(hk:k≠b):(zX w b o).heap[k]?=w.heap[k]?:=by grind[zX]
def zY(arr:Array Value)(k:Nat):List Value->Array Value |[]=>arr|v::vs=>zY (arr.setIfInBounds k v) (k+1) vs
theorem yE:∀(vs:List Value)(arr:Array Value)(k:Nat),(zY arr k vs).size=arr.size|[],_,_=>rfl|v::vs,arr,k=>by simp[zY,yE vs]
theorem wF:∀(vs:List Value)(arr:Array Value)(k:Nat)(i:Nat),k+vs.length<=arr.size->(zY arr k vs)[i]?=if k<=i/\i<k+vs.length then vs[i-k]?else arr[i]?
 |[],arr,k,i,_=>by grind[zY]|v::vs,arr,k,i,h=>by simp only[Ag]at h⊢;rw[zY,wF vs _ _ _ (by simp;omega)];grind
theorem yY8(w:World)(b off:Nat)(v:Value)(cur:Array Value)(T:TypeId)(fz:Nat×Nat)(hb:w.heap[b]?=some (.cells cur T fz)):w.setCell ⟨b,off,none⟩ v=zX w b (.cells (cur.setIfInBounds off v) T fz):=by obtain⟨aa,hv⟩:=Bp.1 hb;unfold World.setCell zX;congr 1;grind
theorem yp2(w:World)(b:Nat)(o o':Go.Obj):zX (zX w b o) b o'=zX w b o':=by simp[zX]
theorem yQ0(w:World)(b:Nat)(o:Go.Obj)(hb:w.heap[b]?=some o):zX w b o=w:=by
 obtain⟨aa,hv⟩:=Bp.1 hb;unfold zX;have:w.heap.setIfInBounds b o=w.heap:=by grind
 simp_all
theorem xV(b o n:Nat):Addr.add ⟨b,o,none⟩ n=⟨b,o+n,none⟩:=by unfold Addr.add;simp
theorem xJ(P:Program)(b o:Nat)(T:TypeId)(fz:Nat×Nat):∀(vs:List Value)(i:Nat)(cur:Array Value)(w:World),w.heap[b]?=some (.cells cur T fz)->zf4 cur fz->o+i+vs.length<=cur.size->(∀v∈vs,v.oneCell'=true)->(storeCells ⟨b,o,none⟩ vs i).run P w=.ok () (zX w b (.cells (zY cur (o+i) vs) T fz))
 |[],i,cur,w,hb,_,_,_=>by rw[storeCells,zY,yQ0 _ _ _ hb];rfl|v::vs,i,cur,w,hb,hu,hl,hv=>by
  simp only[Ag]at hl;have hc:w.cell? ⟨b,o+i,none⟩=some (cur[o+i]'om):=by grind[World.cell?]
  have hf:w.frozen? ⟨b,o+i,none⟩=false:=by have:=hu (o+i) om;grind[World.frozen?]
  obtain⟨aa,_⟩:=Bp.1 hb;rw[storeCells];simp only[Sem.run_bind,xV];rw[run_store P w ⟨b,o+i,none⟩ v .plain (hv v sm)];simp only[hc,hf,if_false,D0,Result.andThen_ok];rw[yY8 w b (o+i) v cur T fz hb];have ih:=xJ P b o T fz vs (i+1) (cur.setIfInBounds (o+i) v) (zX w b (.cells (cur.setIfInBounds (o+i) v) T fz)) (xC _ _ _ aa) (λk hk=>hu k (by grind)) (by grind) (by grind);rw[ih,yp2];rfl
theorem ze7{l:List α}{j:Nat}{a b:α}(h:(l.set i a)[j]?=some b):(j=i/\b=a/\i<l.length)∨(j≠i/\l[j]?=some b):=by grind
theorem Mem.upd(h:Mem c w L σ β){w':World}{L':Nat->Nat}(i:Nat)(o:Ob)(x:Value)(hle:Le w L w' L')(ab:Ext σ β (σ.set i o) (β.set i x))(D:Nat->Prop)(hD:∀(j:Nat)o' x' b,j≠i->σ[j]?=some o'->β[j]?=some x'->excl o' x'=some b->¬D b)(ax:∀b,D b->c.w0.heap.size<=b∨b∈c.X0)(af:∀b,¬D b->w'.heap[b]?=w.heap[b]?/\L' b=L b)(ak:w'.heap.size=w.heap.size)(al:w'.os=w.os)(ad:w'.tape=w.tape)(ag:w'.output=w.output)(hlim:∀b,w.heap.size<=b->L' b=0)(hok:ObOk w' L' (σ.set i o) (β.set i x) o x)(hex:∀b,excl o x=some b->D b)(an:w.drawn<=w'.drawn:=by exact A5 _):Mem c w' L' (σ.set i o) (β.set i x):=by
 refine⟨by simp[h.len],λj o' x' hj hx=>?_,λj k o1 o2 x1 x2 b ao hj aq hk ar hb=>?_,λj o' x' b hj hx hb=>?_,λb hb hx=>?_,h.le.trans hle,by rw[ak];exact h.size,al.trans h.os,ad.trans h.tape,ag.trans h.output,Ax h.drawn an,(by grind),h.ext.trans ab,h.tab⟩
 .rcases ze7 hj with⟨rfl,rfl,hl⟩|⟨ah,aa⟩;.grind
  .rcases ze7 hx with⟨e,_,_⟩|⟨_,ae⟩;.omega
   .exact(h.objs j o' x' aa ae).step hle ab (by grind)
 .rcases ze7 hj with⟨rfl,rfl,hl⟩|⟨ah,aa⟩;.grind
  .rcases ze7 aq with⟨e,_,_⟩|⟨_,ai⟩;.omega
   .rcases ze7 hk with⟨rfl,rfl,_⟩|⟨aw,au⟩;.grind
    .rcases ze7 ar with⟨e,_,_⟩|⟨_,aj⟩;.omega
     .exact h.apart j k o1 o2 x1 x2 b ao aa ai au aj hb
 .rcases ze7 hj with⟨rfl,rfl,hl⟩|⟨ah,aa⟩;.grind
  .rcases ze7 hx with⟨e,_,_⟩|⟨_,ae⟩;.omega
   .exact h.mine j o' x' b aa ae hb
 .have av:¬D b:=(by grind);obtain⟨e1,e2⟩:=af b av;obtain⟨e3,e4⟩:=h.same b hb hx;grind
theorem Ext.setBox(hi:σ[i]?=some (Ob.box cells))(aa:List V):Ext σ β (σ.set i (.box aa)) β:=by refine⟨sm,(by grind),(by grind),(by grind)⟩;all_goals grind
def putCells(cells:List V)(off:Nat)(vs:List V):List V:=cells.take off++vs++cells.drop (off+vs.length)
theorem yK(l:List α)(i:Nat)(a:α)(h:l[i]?=some a):l.set i a=l:=by apply Bt;grind
theorem yC7(cells vs:List V)(off i:Nat)(h:off+vs.length<=cells.length):(putCells cells off vs)[i]?=if off<=i/\i<off+vs.length then vs[i-off]?else cells[i]?:=by
 unfold putCells;have ht:(cells.take off).length=off:=by grind
 grind
theorem zG1(cells vs:List V)(off:Nat)(h:off+vs.length<=cells.length):(putCells cells off vs).length=cells.length:=by grind[putCells]
theorem zY0{R:V->Value->Prop}{vs:List V}{arr:Array Value}{xs:List Value}{off:Nat}(h:All2 R cells arr.toList)(hv:All2 R vs xs)(hl:off+vs.length<=cells.length):All2 R (putCells cells off vs) (zY arr off xs).toList:=by
 have e1:=h.length;have e2:=hv.length;simp at e1;refine All2.of (by grind[zG1,yE]) λi a b ha hb=>?_;rw[yC7 _ _ _ _ hl]at ha;rw[Ap,wF _ _ _ _ om,<-e2]at hb;by_cases hc:off<=i/\i<off+vs.length;.rw[if_pos hc]at ha hb;obtain⟨y,hy,r⟩:=hv.get _ _ ha;grind
 .rw[if_neg hc]at ha hb;obtain⟨y,hy,r⟩:=h.get _ _ ha;grind
theorem Mem.setBox(h:Mem c w L σ β){vs:List V}{xs:List Value}{off b:Nat}(hi:σ[i]?=some (.box cells))(hβ:β[i]?=some (.pointer (some ⟨b,0,none⟩)))(hv:All2 (RdC w L σ β) vs xs)(hl:off+vs.length<=cells.length):∃arr T fz,w.heap[b]?=some (.cells arr T fz)/\zf4 arr fz/\arr.size=cells.length/\Mem c (zX w b (.cells (zY arr off xs) T fz)) L (σ.set i (.box (putCells cells off vs))) β/\Le w L (zX w b (.cells (zY arr off xs) T fz)) L:=by
 have hok:=h.objs i _ _ hi hβ;obtain⟨b',arr,T,fz,e,hh,hf,h0,hc⟩:=hok;cases e;have ab:b<w.heap.size:=(by grind);have hle:Le w L (zX w b (.cells (zY arr off xs) T fz)) L:=by refine⟨om,λk o ho=>zd2 (wW w b k _ λq=>?_) o⟩;grind
 refine⟨arr,T,fz,hh,hf,by have:=hc.length;grind,?_,hle⟩;have aa:=yK β i _ hβ;have af:Ext σ β (σ.set i (.box (putCells cells off vs))) β:=Ext.setBox hi _;have key:=h.upd (w':=zX w b (.cells (zY arr off xs) T fz)) (L':=L) i (.box (putCells cells off vs)) (.pointer (some ⟨b,0,none⟩)) hle (by grind) (λk=>k=b) (λj o' x' k hj ad ae hk e=>by subst e;exact h.apart j i o' _ x' _ k hj ad ae hi hβ hk rfl) (λk e=>by subst e;exact h.mine i _ _ k hi hβ rfl) (λk hk=>⟨wW w b k _ hk,rfl⟩) (by simp[zX]) rfl rfl rfl h.lim ?_ (by grind[excl]);.grind
 .rw[aa];refine⟨b,_,T,fz,rfl,xC _ _ _ ab,λo ho=>hf o (by grind[yE]),h0,?_⟩;exact(zY0 hc hv hl).imp (by grind[RdC.mono])
end
variable{w:World}{L:Nat->Nat}{g:Tag}{x:Value}
def uni(s:Nat)(rows:List (List V)):Prop:=∀r∈rows,r.length=s
theorem zW{α:Type}{s:Nat}:∀{rows:List (List α)},(∀r∈rows,r.length=s)->rows.flatten.length=rows.length*s
 |[],_=>by simp|r::rows,h=>by simp_all[zW,B4,Ei]
theorem yP{α:Type}{s:Nat}:∀{rows:List (List α)}(i j:Nat),(∀r∈rows,r.length=s)->j<s->rows.flatten[i*s+j]?=(rows[i]?).bind λr=>r[j]?
 |[],i,j,_,_=>by simp|r::rows,0,j,h,hj=>by grind|r::rows,i+1,j,h,hj=>by have hr:=h r sm;rw[Dk,Am (by rw[hr,B4];omega),hr,show(i+1)*s+j-s=i*s+j by rw[B4];omega,yP i j (λx hx=>h x (by simp[hx])) hj];simp
theorem RdP.of_flat{rows:List (List V)}{s b o cap:Nat}(hs:0<s)(hu:uni s rows)(hlim:o+rows.length*s<=L b)(hcap:rows.length<=cap)(ha:∀id,g≠.app id)(hg:g=.full->cap=rows.length)(h:∀(k:Nat)v,rows.flatten[k]?=some v->∃x,w.cell? ⟨b,o+k,none⟩=some x/\RdP w L v x):RdP w L (.sl g rows) (.slice (some ⟨b,o,none⟩) rows.length cap):=by
 refine .sl g rows s b o cap (λi j=>(w.cell? ⟨b,o+i*s+j,none⟩).getD undef) ha hs hu hlim hcap hg (λi j hi hj=>?_) (λi j hi hj=>?_)
 .have aa:j<rows[i].length:=by rw[hu _ sm];exact hj
  obtain⟨x,hx,_⟩:=h (i*s+j) (rows[i][j]) (by rw[yP i j hu hj,A0 hi];simp);grind
 .have aa:j<s:=by rw[<-hu _ (Aa hi)];exact hj
  obtain⟨x,hx,r⟩:=h (i*s+j) (rows[i][j]) (by rw[yP i j hu aa,A0 hi];simp);grind
theorem RdP.flat{rows:List (List V)}(r:RdP w L (.sl g rows) x)(ab:rows≠[]):∃s b o cap,x=.slice (some ⟨b,o,none⟩) rows.length cap/\0<s/\uni s rows/\o+rows.length*s<=L b/\rows.length<=cap/\(g=.full->cap=rows.length)/\∀(k:Nat)v,rows.flatten[k]?=some v->∃y,w.cell? ⟨b,o+k,none⟩=some y/\RdP w L v y:=by cases r with |sl0=>grind|sl _ _ s b o cap c ha hs hlen hlim hcap hg hc hr=>
  refine⟨s,b,o,cap,rfl,hs,hlen,hlim,hcap,hg,λk v hk=>?_⟩;have ad:k<rows.length*s:=by grind[zW]
  have hi:k/s<rows.length:=by simp_all[Cw]
  have hj:k%s<s:=Do _ hs;have aa:k=k/s*s+k%s:=by rw[Dh];exact(Dv k s).symm
  rw[aa,yP _ _ hlen hj,A0 hi]at hk;grind
theorem RdP.len{rows:List (List V)}(r:RdP w L (.sl g rows) x):∃a cap,x=.slice a rows.length cap/\rows.length<=cap/\(g=.full->cap=rows.length):=by cases r with |sl0 _ a cap hg=>exact⟨_,_,rfl,sm,om⟩|sl _ _ s b o cap c ha hs hlen hlim hcap hg hc hr=>grind
theorem RdP.src{P:Program}{rows:List (List V)}{s:Nat}{tx e:TypeId}(r:RdP w L (.sl g rows) x)(hk:P.underlying tx=some (.slice e))(_hs:0<s)(hu:uni s rows):∃news,Src P s tx x rows.length news w/\All2 (RdP w L) rows.flatten news:=by
 by_cases aa:rows=[];.subst aa;obtain⟨a,cap,rfl,_,_⟩:=r.len;cases a with |none=>exact⟨[],Src.ofNil w hk cap,tV⟩|some a=>exact⟨[],(by grind[Src.ofSlice]),tV⟩
 .obtain⟨s',b,o,cap,rfl,ai,ab,hlim,hcap,_,hc⟩:=r.flat aa;have ag:s'=s:=by obtain⟨r0,rest,rfl⟩:=Di aa;rw[<-ab r0 sm,hu r0 sm]
  subst ag;have ad:=zW ab;let f:=λk=>(w.cell? ⟨b,o+k,none⟩).getD undef;have ae:All2 (RdP w L) rows.flatten ((List.range (rows.length*s')).map f):=by grind[All2.of]
  refine⟨(List.range (rows.length*s')).map f,Src.ofSlice w hk ⟨b,o,none⟩ rows.length cap _ sm (λj u hj=>?_) (λu hu=>?_),ae⟩
  .rw[B2]at hj;have af:j<rows.length*s':=by grind
   rw[A0 (by simpa using af)]at hj;simp only[List.getElem_range,B8,Option.some.injEq]at hj;obtain⟨z,hz,_⟩:=hc j _ (A0 (by rw[ad];exact af));grind[xV]
  .obtain⟨k,hk,rfl⟩:=Ac.1 hu;have ah:k<rows.length*s':=by grind
   obtain⟨z,hz,rz⟩:=hc k _ (A0 (by rw[ad];exact ah));simpa[f,hz]using rz.oneCell
def zP(bs:List UInt8):List (List V):=bs.map λb=>[.int .u8 b.toNat]
theorem zQ3(bs:List UInt8):uni 1 (zP bs):=λr hr=>by obtain⟨b,_,rfl⟩:=Ac.1 hr;rfl
theorem zp6(bs:List UInt8):All2 (RdP w L) (zP bs).flatten (byteCells ⟨bs.toArray⟩):=by unfold zP byteCells;show All2 _ _ (bs.map _);induction bs with |nil=>trivial|cons b bs ih=>exact⟨.int _ _,ih⟩
theorem zb7{s:Nat}{a b:List (List V)}(ha:uni s a)(hb:uni s b):uni s (a++b):=λr hr=>by
 rcases Av.1 hr with h|h;.exact ha r h
 .exact hb r h
theorem RdP.of_row{rows:List (List V)}{s b o cap:Nat}{arr:Array Value}{T:TypeId}{fz:Nat×Nat}{xs:List Value}(hs:0<s)(hu:uni s rows)(hlim:o+rows.length*s<=L b)(hcap:rows.length<=cap)(ha:∀id,g≠.app id)(hg:g=.full->cap=rows.length)(hh:w.heap[b]?=some (.cells arr T fz))(hx:∀(k:Nat)x,xs[k]?=some x->arr[o+k]?=some x)(h:All2 (RdP w L) rows.flatten xs):RdP w L (.sl g rows) (.slice (some ⟨b,o,none⟩) rows.length cap):=by refine .of_flat hs hu hlim hcap ha hg λk v hv=>?_;obtain⟨x,aa,r⟩:=h.get k v hv;grind[World.cell?]
section
variable{c:Ctx}{w:World}{L:Nat->Nat}{σ:St}{β:List Value}
variable{cap:Nat}{i:Nat}{arr:Array Value}{T:TypeId}{n:Nat}{rows2:List (List V)}{xs:List Value}
theorem yQ5(arr:Array Value)(k:Nat)(xs:List Value)(h:k+xs.length<=arr.size)(i:Nat)(x:Value)(hx:xs[i]?=some x):(zY arr k xs)[k+i]?=some x:=by have hi:i<xs.length:=(by grind);simp_all[wF]
theorem zZ8(arr:Array Value)(k:Nat)(xs:List Value)(h:k+xs.length<=arr.size)(i:Nat)(hi:i<k):(zY arr k xs)[i]?=arr[i]?:=by simp_all[wF];omega
theorem Mem.appIn(h:Mem c w L σ β){s b o:Nat}{rows:List (List V)}(hi:σ[i]?=some (.app n s))(hβ:β[i]?=some (.slice (some ⟨b,o,none⟩) n cap))(hn:rows.length=n)(hr:RdP w L (.sl .ro rows) (.slice (some ⟨b,o,none⟩) n cap))(af:uni s rows)(hu:uni s rows2)(hx:All2 (RdP w L) rows2.flatten xs)(ao:0<rows2.length)(aa:n+rows2.length<=cap):∃arr T fz,w.heap[b]?=some (.cells arr T fz)/\zf4 arr fz/\o+n*s+xs.length<=arr.size/\Mem c (zX w b (.cells (zY arr (o+n*s) xs) T fz)) (xF L b (o+(n+rows2.length)*s)) (σ.set i (.app (n+rows2.length) s)) (β.set i (.slice (some ⟨b,o,none⟩) (n+rows2.length) cap))/\Le w L (zX w b (.cells (zY arr (o+n*s) xs) T fz)) (xF L b (o+(n+rows2.length)*s))/\Ext σ β (σ.set i (.app (n+rows2.length) s)) (β.set i (.slice (some ⟨b,o,none⟩) (n+rows2.length) cap))/\RdP (zX w b (.cells (zY arr (o+n*s) xs) T fz)) (xF L b (o+(n+rows2.length)*s)) (.sl .ro (rows++rows2)) (.slice (some ⟨b,o,none⟩) (n+rows2.length) cap):=by
 obtain⟨a,ag,e,aj,hs,hok⟩:=h.objs i _ _ hi hβ;cases e;obtain⟨b',o',arr,T,fz,e,hh,hf,aq,hL⟩:=hok om;cases e;have ah:b<w.heap.size:=(by grind);have ar:xs.length=rows2.length*s:=by rw[<-hx.length,zW hu]
 have hmul:(n+rows2.length)*s=n*s+rows2.length*s:=(by grind);have au:(n+rows2.length)*s<=cap*s:=Ao _ aa;have ab:o+n*s+xs.length<=arr.size:=om;have hle:Le w L (zX w b (.cells (zY arr (o+n*s) xs) T fz)) (xF L b (o+(n+rows2.length)*s)):=by refine⟨λk=>?_,λk q hq=>?_⟩;all_goals grind[xF,World.cell?,xC,zZ8,wW]
 have av:rows2.length≠0:=om;have ad:Ext σ β (σ.set i (.app (n+rows2.length) s)) (β.set i (.slice (some ⟨b,o,none⟩) (n+rows2.length) cap)):=by
  refine⟨λid a e=>?_,λid n0 s0 e=>?_,(by grind),(by grind)⟩;.grind
  .by_cases q:i=id;.subst q;rw[hi]at e;cases e;grind
   grind
  all_goals grind
 refine⟨arr,T,fz,hh,hf,ab,?_,hle,ad,?_⟩
 .refine h.upd i _ _ hle ad (λk=>k=b) (λj o' x' k hj ak al hk e=>by subst e;exact h.apart j i o' _ x' _ k hj ak al hi hβ hk (by grind[excl])) (λk e=>by subst e;exact h.mine i _ _ k hi hβ (by grind[excl])) (by grind[wW,xF]) (by simp[zX]) rfl rfl rfl (λk hk=>?_) ?_ (λk hk=>?_);.simp only[xF];rw[if_neg om];exact h.lim k hk
  .refine⟨_,cap,rfl,aa,hs,λhl=>⟨b,o,_,T,fz,rfl,xC _ _ _ ah,λq hq=>hf q (by grind[yE]),by grind[yE],by simp[xF]⟩⟩
  grind[excl]
 .have hlen:(rows++rows2).length=n+rows2.length:=by grind
  have e:Value.slice (some ⟨b,o,none⟩) (n+rows2.length) cap=Value.slice (some ⟨b,o,none⟩) (rows++rows2).length cap:=by grind
  rw[e];refine .of_flat hs (zb7 af hu) (by grind[xF]) om sm sm λk v hk=>?_;rw[C7]at hk;have aw:=zW af;simp only[World.cell?,xC _ _ _ ah];by_cases an:k<rows.flatten.length;.rw[Ah an]at hk;have ai:rows≠[]:=(by grind);obtain⟨s',b',o',ag,e,_,ax,_,_,_,ae⟩:=hr.flat ai;cases e;obtain⟨y,hy,ry⟩:=ae k v hk;refine⟨y,?_,ry.mono hle⟩;simp_all[World.cell?,zZ8]
  .rw[Am om]at hk;obtain⟨y,hy,ry⟩:=hx.get _ _ hk;refine⟨y,?_,ry.mono hle⟩;have:=yQ5 arr (o+n*s) xs ab _ y hy;grind
theorem Mem.appNew(h:Mem c w L σ β){s:Nat}{rows:List (List V)}{x0:Value}(hi:σ[i]?=some (.app n s))(hβ:β[i]?=some x0)(hs:0<s)(hu:uni s rows)(hx:All2 (RdP w L) rows.flatten xs)(ae:n<rows.length)(hcap:rows.length<=cap)(af:cap*s<=arr.size)(ag:∀(k:Nat)x,xs[k]?=some x->arr[k]?=some x):Mem c (w.alloc (.cells arr T)) (xF L w.heap.size (rows.length*s)) (σ.set i (.app rows.length s)) (β.set i (.slice (some ⟨w.heap.size,0,none⟩) rows.length cap))/\Le w L (w.alloc (.cells arr T)) (xF L w.heap.size (rows.length*s))/\Ext σ β (σ.set i (.app rows.length s)) (β.set i (.slice (some ⟨w.heap.size,0,none⟩) rows.length cap))/\RdP (w.alloc (.cells arr T)) (xF L w.heap.size (rows.length*s)) (.sl .ro rows) (.slice (some ⟨w.heap.size,0,none⟩) rows.length cap):=by
 obtain⟨h1,hle⟩:=h.alloc (.cells arr T) (rows.length*s);have ah:∀a,x0≠.pointer a:=by intro a e;subst e;obtain⟨_,_,e,_⟩:=h.objs i _ _ hi hβ;cases e
 have aa:Ext σ β (σ.set i (.app rows.length s)) (β.set i (.slice (some ⟨w.heap.size,0,none⟩) rows.length cap)):=by refine⟨(by grind),(by grind),(by grind),(by grind)⟩;all_goals grind
 refine⟨?_,hle,aa,?_⟩
 .refine h1.upd i _ _ (Le.refl _ _) aa (λk=>k=w.heap.size) (λj o' x' k hj ab ad hk e=>?_) (λk e=>by subst e;exact .inl h.size) sm rfl rfl rfl rfl h1.lim ?_ (λk hk=>?_);.have:=(h.objs j o' x' ab ad).excl_lt hk;omega
  .refine⟨_,cap,rfl,hcap,hs,λhl=>⟨_,0,_,T,(0,0),rfl,yH _ _,λq _ hq=>om,om,by simp[xF]⟩⟩
  grind[excl]
 .exact .of_row hs hu (by simp[xF]) hcap sm sm (yH _ _) (by grind) (hx.imp (by grind[RdP.mono]))
theorem Mem.appPush(h:Mem c w L σ β){s:Nat}{rows:List (List V)}(hs:0<s)(hu:uni s rows)(hx:All2 (RdP w L) rows.flatten xs)(hcap:rows.length<=cap)(ad:cap*s<=arr.size)(ae:∀(k:Nat)x,xs[k]?=some x->arr[k]?=some x):Mem c (w.alloc (.cells arr T)) (xF L w.heap.size (rows.length*s)) (σ++[.app rows.length s]) (β++[.slice (some ⟨w.heap.size,0,none⟩) rows.length cap])/\Le w L (w.alloc (.cells arr T)) (xF L w.heap.size (rows.length*s))/\RdP (w.alloc (.cells arr T)) (xF L w.heap.size (rows.length*s)) (.sl .ro rows) (.slice (some ⟨w.heap.size,0,none⟩) rows.length cap):=by
 obtain⟨h1,hle⟩:=h.alloc (.cells arr T) (rows.length*s);refine⟨?_,hle,?_⟩
 .refine h1.push _ _ ⟨_,cap,rfl,hcap,hs,λhl=>⟨_,0,_,T,(0,0),rfl,yH _ _,λq _ hq=>om,om,by simp[xF]⟩⟩ (λj o' x' k aa ab hk e=>?_) (λk hk=>?_);.have:=(h.objs j o' x' aa ab).excl_lt hk;grind[excl]
  .simp[excl]at hk;rw[<-hk.2];exact .inl h.size
 .exact .of_row hs hu (by simp[xF]) hcap sm sm (yH _ _) (by grind) (hx.imp (by grind[RdP.mono]))
theorem Mem.own(h:Mem c w L σ β){s:Nat}{a:Option Addr}(hs:0<s):Mem c w L (σ++[.app n s]) (β++[.slice a n n]):=by
 refine h.push _ _ ⟨a,n,rfl,om,hs,om⟩ (λj o' x' k _ _ _=>?_) (λk hk=>?_);.cases a<;>simp[excl]
 .cases a<;>simp[excl]at hk
theorem yp1(cells vs:List V)(off i:Nat)(h:off<=cells.length):(putCells cells off vs)[i]?=if off<=i/\i<off+vs.length then vs[i-off]?else cells[i]?:=by unfold putCells;grind
theorem zW7(cells vs:List V)(off:Nat)(h:off<=cells.length):(putCells cells off vs).length=max cells.length (off+vs.length):=by grind[putCells]
theorem Ext.setLst{s:Nat}{rows:List (List V)}{x y:Value}(hi:σ[i]?=some (.lst rows s))(hl:β.length=σ.length)(hβ:β[i]?=some x)(hx:∀a,x≠.pointer a)(ab:rows.length<=rows2.length)(aa:rows2.length=rows.length->y=x):Ext σ β (σ.set i (.lst rows2 s)) (β.set i y):=by have ad:i<σ.length:=(by grind);refine⟨(by grind),(by grind),(by grind),(by grind)⟩;all_goals grind
theorem Mem.lstPut(h:Mem c w L σ β){s b off:Nat}{rows:List (List V)}{vs:List V}(hi:σ[i]?=some (.lst rows s))(hβ:β[i]?=some (.slice (some ⟨b,0,none⟩) n cap))(hcap:0<cap)(hv:All2 (RdC w L σ β) vs xs)(ar:off<=rows.length*s)(ae:uni s rows2)(hr:rows2.flatten=putCells rows.flatten off vs)(ah:rows.length<=rows2.length)(ab:rows2.length<=cap):∃arr T fz,w.heap[b]?=some (.cells arr T fz)/\zf4 arr fz/\off+xs.length<=arr.size/\Mem c (zX w b (.cells (zY arr off xs) T fz)) L (σ.set i (.lst rows2 s)) (β.set i (.slice (some ⟨b,0,none⟩) rows2.length cap))/\Le w L (zX w b (.cells (zY arr off xs) T fz)) L/\Ext σ β (σ.set i (.lst rows2 s)) (β.set i (.slice (some ⟨b,0,none⟩) rows2.length cap)):=by
 obtain⟨a,au,e,ai,hs,hu,hok⟩:=h.objs i _ _ hi hβ;cases e;obtain⟨b',arr,T,fz,e,hh,hf,aw,hL,af⟩:=hok hcap;cases e;have aj:b<w.heap.size:=(by grind);have ax:i<σ.length:=(by grind);have ay:=zW hu;have av:=zW ae;have az:=hv.length;have ak:rows2.length*s=max (rows.length*s) (off+vs.length):=by grind[zW7]
 have a1:rows2.length*s<=cap*s:=Ao _ ab;have ad:off+xs.length<=arr.size:=om;have hle:Le w L (zX w b (.cells (zY arr off xs) T fz)) L:=by
  refine⟨om,λk q hq=>?_⟩;by_cases e:k=b;.grind
  .exact zd2 (wW w b k _ e) q
 have aa:Ext σ β (σ.set i (.lst rows2 s)) (β.set i (.slice (some ⟨b,0,none⟩) rows2.length cap)):=Ext.setLst hi h.len hβ sm ah sm;refine⟨arr,T,fz,hh,hf.1,ad,?_,hle,aa⟩;refine h.upd i _ _ hle aa (λk=>k=b) (λj o' x' k hj al an hk e=>by subst e;exact h.apart j i o' _ x' _ k hj al an hi hβ hk (by simp[excl,hcap])) (λk e=>by subst e;exact h.mine i _ _ k hi hβ (by simp[excl,hcap])) (λk hk=>⟨wW w b k _ hk,rfl⟩) (by simp[zX]) rfl rfl rfl h.lim ?_ (λk hk=>?_)
 .refine⟨_,cap,rfl,ab,hs,ae,λ_=>⟨b,_,T,fz,rfl,xC _ _ _ aj,hf.size (by rw[yE]),by rw[yE];omega,hL,?_⟩⟩;refine All2.of ?_ λk p y hp hy=>?_
  .have a6:(zY arr off xs).toList.length=arr.size:=by simp[yE]
   grind
  .have ao:k<rows2.length*s:=by grind
   rw[Ai,if_pos ao,Ap,wF _ _ _ _ ad]at hy;rw[hr,yp1 _ _ _ _ om]at hp;by_cases ag:off<=k/\k<off+vs.length;.rw[if_pos ag]at hp;rw[if_pos om]at hy;obtain⟨z,hz,r⟩:=hv.get _ _ hp;rw[hy]at hz;cases hz;exact r.mono hle aa
   .rw[if_neg ag]at hp;rw[if_neg om]at hy;obtain⟨z,hz,r⟩:=af.get _ _ hp;have aq:k<rows.length*s:=om;rw[Ai,if_pos aq,Ap,hy]at hz;cases hz;exact r.mono hle aa
 .simp[excl,hcap]at hk;omega
theorem zE7(h:Mem c w L σ β):xF L w.heap.size 0=L:=by
 funext k;by_cases hk:k=w.heap.size;.subst hk;simp[xF,h.lim _ (A5 _)]
 grind[xF]
theorem Mem.lstPush(h:Mem c w L σ β){s:Nat}{rows:List (List V)}(hs:0<s)(hu:uni s rows)(hx:All2 (RdC w L σ β) rows.flatten (arr.toList.take (rows.length*s)))(hcap:rows.length<=cap)(ab:cap*s<=arr.size):Mem c (w.alloc (.cells arr T)) L (σ++[.lst rows s]) (β++[.slice (some ⟨w.heap.size,0,none⟩) rows.length cap])/\Le w L (w.alloc (.cells arr T)) L/\Ext σ β (σ++[.lst rows s]) (β++[.slice (some ⟨w.heap.size,0,none⟩) rows.length cap]):=by
 have h1:=h.alloc (.cells arr T) 0;rw[zE7 h]at h1;have aa:=Ext.push σ β h.len (.lst rows s) (.slice (some ⟨w.heap.size,0,none⟩) rows.length cap);refine⟨h1.1.push _ _ ⟨_,cap,rfl,hcap,hs,hu,λ_=>⟨_,arr,T,(0,0),rfl,yH _ _,ya4 _ _,ab,h.lim _ om,hx.imp (by grind[RdC.mono])⟩⟩ (λj o' x' k ad ae hk e=>?_) (λk hk=>?_),h1.2,aa⟩;.have:=(h.objs j o' x' ad ae).excl_lt hk;grind[excl]
 .simp[excl]at hk;rw[<-hk.2];exact .inl h.size
theorem Mem.lstPushF(h:Mem c w L σ β){s:Nat}{rows:List (List V)}{fz:Nat×Nat}(ab:unfrozenL s arr fz)(hs:0<s)(hu:uni s rows)(hx:All2 (RdC w L σ β) rows.flatten (arr.toList.take (rows.length*s)))(hcap:rows.length<=cap)(ad:cap*s<=arr.size):Mem c (w.alloc (.cells arr T fz)) L (σ++[.lst rows s]) (β++[.slice (some ⟨w.heap.size,0,none⟩) rows.length cap])/\Le w L (w.alloc (.cells arr T fz)) L/\Ext σ β (σ++[.lst rows s]) (β++[.slice (some ⟨w.heap.size,0,none⟩) rows.length cap]):=by
 have h1:=h.alloc (.cells arr T fz) 0;rw[zE7 h]at h1;have aa:=Ext.push σ β h.len (.lst rows s) (.slice (some ⟨w.heap.size,0,none⟩) rows.length cap);refine⟨h1.1.push _ _ ⟨_,cap,rfl,hcap,hs,hu,λ_=>⟨_,arr,T,fz,rfl,yH _ _,ab,ad,h.lim _ om,hx.imp (by grind[RdC.mono])⟩⟩ (λj o' x' k ae af hk e=>?_) (λk hk=>?_),h1.2,aa⟩;.have:=(h.objs j o' x' ae af).excl_lt hk;grind[excl]
 .simp[excl]at hk;rw[<-hk.2];exact .inl h.size
theorem Mem.lstNil(h:Mem c w L σ β){s:Nat}{a:Option Addr}(hs:0<s):Mem c w L (σ++[.lst [] s]) (β++[.slice a 0 0]):=by
 refine h.push _ _ ⟨a,0,rfl,sm,hs,sm,om⟩ (λj o' x' k _ _ _=>?_) (λk hk=>?_);.cases a<;>simp[excl]
 .cases a<;>simp[excl]at hk
theorem Mem.lstRe(h:Mem c w L σ β){s:Nat}{rows:List (List V)}{x0:Value}(hi:σ[i]?=some (.lst rows s))(hβ:β[i]?=some x0)(hs:0<s)(hu:uni s rows2)(hx:All2 (RdC w L σ β) rows2.flatten (arr.toList.take (rows2.length*s)))(af:rows.length<rows2.length)(hcap:rows2.length<=cap)(ab:cap*s<=arr.size):Mem c (w.alloc (.cells arr T)) L (σ.set i (.lst rows2 s)) (β.set i (.slice (some ⟨w.heap.size,0,none⟩) rows2.length cap))/\Le w L (w.alloc (.cells arr T)) L/\Ext σ β (σ.set i (.lst rows2 s)) (β.set i (.slice (some ⟨w.heap.size,0,none⟩) rows2.length cap)):=by
 obtain⟨h1,hle⟩:=h.alloc (.cells arr T) 0;rw[zE7 h]at h1 hle;have aa:Ext σ β (σ.set i (.lst rows2 s)) (β.set i (.slice (some ⟨w.heap.size,0,none⟩) rows2.length cap)):=Ext.setLst hi h.len hβ (λa e=>by subst e;obtain⟨_,_,e,_⟩:=h.objs i _ _ hi hβ;cases e) om om;refine⟨?_,hle,aa⟩;refine h1.upd i _ _ (Le.refl _ _) aa (λk=>k=w.heap.size) (λj o' x' k hj ad ae hk e=>?_) (λk e=>by subst e;exact .inl h.size) sm rfl rfl rfl rfl h1.lim ?_ (λk hk=>?_);.have:=(h.objs j o' x' ad ae).excl_lt hk;omega
 .exact⟨_,cap,rfl,hcap,hs,hu,λ_=>⟨_,arr,T,(0,0),rfl,yH _ _,ya4 _ _,ab,h.lim _ om,hx.imp (by grind[RdC.mono])⟩⟩
 grind[excl]
end
structure Sim(c:Ctx)(nt:Nat)(e:Env)(σ:St)(a:Act)(w:World)(L:Nat->Nat)(β:List Value):Prop where
 mem:Mem c w L σ β
 size:a.tmps.size=nt
 defs:a.defers=[]env:∀t,RdS w L σ β (e t) (a.tmps.getD t undef)
variable {w:World}{L:Nat->Nat}
def zc1:Value->V |.bool b=>.bool b|.int k n=>.int k n|.string s=>.str s.data.toList|.pointer none=>.nilp|.slice none 0 0=>.sl .full []|.agg _=>.u|.tuple _=>.u|v=>.raw v
def xW6(g:Nat):V:=match tabs.find? (λp=>p.1==g)with |some p=>.elp p.2 0|none=>.u
def zD(e:Env):Operand->V |.tmp t=>e t|.const v=>zc1 v|.func f=>.fn f []|.global g=>xW6 g
def zI0:V->Bool|.u|.agg _|.tup _=>false|_=>true
theorem xD0{σ:St}{β:List Value}(v:Value):RdS w L σ β (zc1 v) v:=by
 unfold zc1;split;.exact RdP.bool _
 .exact RdP.int _ _
 .rename_i s;have:RdP w L (.str s.data.toList) (.string ⟨s.data.toList.toArray⟩):=.str _;simpa
 .exact RdP.nilp
 .exact RdP.sl0 _ _ _ om sm
 .trivial
 .trivial
 .rename_i h1 h2 h3 h4 h5 h6 h7;refine RdP.raw v ?_;cases v<;>first|rfl|exact(by grind)|exact(by grind)
theorem zv7(v:Value)(h1:v.oneCell'=true):RdP w L (zc1 v) v/\zI0 (zc1 v)=true:=by
 unfold zc1;split;.exact⟨RdP.bool _,rfl⟩
 .exact⟨RdP.int _ _,rfl⟩
 .rename_i s;have:RdP w L (.str s.data.toList) (.string ⟨s.data.toList.toArray⟩):=.str _;trivial
 .exact⟨RdP.nilp,rfl⟩
 .exact⟨RdP.sl0 _ _ _ om sm,rfl⟩
 .trivial
 .trivial
 .exact⟨RdP.raw _ h1,rfl⟩
theorem Sim.eval{c:Ctx}{nt:Nat}{e:Env}{σ:St}{a:Act}{β:List Value}(h:Sim c nt e σ a w L β)(x:Operand):RdS w L σ β (zD e x) (a.eval x):=by cases x with |tmp t=>exact h.env t|const v=>exact xD0 v|func f=>exact⟨[],rfl,tV⟩|global g=>trivial
inductive R where|fail|ok(v:V)|need(p:Prop)(v:V)|st(v:V)(σ:St)|needst(p:Prop)(v:V)(σ:St)|all(f:Bool->V)|any(l:List (V×St))
section tables
variable (P:Program)
def szT(t:TypeId):Option Nat:=(P.info? t).map (·.size)
def yV2:TypeDesc->Bool|.struct _|.array _ _=>true|_=>false
def aggT(t:TypeId):Option Bool:=(P.underlying t).map yV2
def fldT(t:TypeId)(f:Nat):Option (Nat×Nat×Bool):=match P.underlying t with |some (.struct fs)=>(fs[f]?).bind λf=>(szT P f.type).bind λs=>(aggT P f.type).bind λb=>if s=0then none else some (f.offset,s,b)|_=>none
def slcT(t:TypeId):Option Nat:=match P.underlying t with |some (.slice e)=>szT P e|_=>none
def arrT(t:TypeId):Option (Nat×Nat×Bool):=match P.underlying t with |some (.array n e)=>(szT P e).bind λs=>(aggT P e).map λb=>(n,s,b)|_=>none
def wI(t:TypeId):Option (List V):=(P.info? t).bind λi=>(i.zero).bind λz=>if z.cells.all (·.oneCell')=true then some (z.cells.toList.map zc1)else none
def elT(t:TypeId):Option (Nat×Nat):=match P.underlying t with |some (.slice e)=>(P.info? e).bind λi=>i.zero.bind λz=>if z.cells.size=i.size/\0<i.size/\0<i.bytes then some (i.size,i.bytes)else none|_=>none
inductive Kd where|int(k:IntKind)|str|bytes|other deriving DecidableEq
def kdT(t:TypeId):Option Kd:=match P.underlying t with |some (.int k)=>some (.int k)|some .string=>some .str|some (.slice e)=>(match P.underlying e with|some (.int .u8)=>some .bytes|_=>some .other)|some _=>some .other|none=>none
end tables
def zy4:V->Bool|.bool _|.int _ _|.str _|.raw _|.nilp|.sl _ _=>true|_=>false
def dem:V->V|.sl _ rows=>.sl .ro rows|v=>v
def xI:V->List V|.agg cs=>cs|v=>[v]
theorem RdP.weak{w:World}{L:Nat->Nat}{g:Tag}{rows:List (List V)}{x:Value}(r:RdP w L (.sl g rows) x):RdP w L (.sl .ro rows) x:=by cases r with |sl0 _ a cap hg ha=>exact .sl0 _ a cap sm sm|sl _ _ s b o cap c ha hs hlen hlim hcap hg hc hr=>exact .sl _ rows s b o cap c sm hs hlen hlim hcap sm hc hr
theorem RdC.dem{w:World}{L:Nat->Nat}{σ:St}{β:List Value}{v:V}{x:Value}(r:RdC w L σ β v x)(h:zy4 v=true):RdP w L (dem v) x:=by cases v with
 |sl g rows=>cases g with |ro=>exact r|full=>exact RdP.weak r|app id=>exact r.1
 |u=>trivial|ptr _ _=>trivial|elp _ _=>trivial|lsv _ _ _ _ _=>trivial|lsp _ _ _ _ _=>trivial|bsv _ _ _ _=>trivial|mp _=>trivial|fn _ _=>trivial|ifc _ _=>trivial|agg _=>trivial|tup _=>trivial|bool b=>exact r|int k n=>exact r|str s=>exact r|raw v=>exact r|nilp=>exact r
section inv
variable{w:World}{L:Nat->Nat}{σ:St}{β:List Value}
variable {x:Value}
theorem zd0{b:Bool}(r:RdS w L σ β (.bool b) x):x=.bool b:=by cases r;rfl
theorem yM{k:IntKind}{n:Int}(r:RdS w L σ β (.int k n) x):x=.int k n:=by cases r;rfl
theorem wV{s:List UInt8}(r:RdS w L σ β (.str s) x):x=.string ⟨s.toArray⟩:=by cases r;rfl
theorem yj0(r:RdS w L σ β .nilp x):x=.pointer none:=by cases r;rfl
theorem zw0{g:Tag}{rows:List (List V)}(r:RdS w L σ β (.sl g rows) x):RdP w L (.sl .ro rows) x:=by cases g with |ro=>exact r|full=>exact RdP.weak r|app id=>exact r.1
theorem xF1{v:V}(r:RdS w L σ β v x)(h:zI0 v=true):RdC w L σ β v x:=by cases v<;>first|exact r|simp[zI0]at h
theorem zA4(h:x.oneCell'=true):x.cells=#[x]:=by cases x<;>first|rfl|simp[Value.oneCell']at h
def wY:V->Bool|.u|.tup _=>false|_=>true
theorem zp2{v:V}(r:RdS w L σ β v x)(h:wY v=true):All2 (RdC w L σ β) (xI v) x.cells.toList:=by
 by_cases hc:zI0 v=true
 .have r':=xF1 r hc;rw[zA4 r'.oneCell];have:xI v=[v]:=by cases v<;>first|rfl|simp[zI0]at hc
  rw[this];trivial
 .cases v with |agg cs=>obtain⟨xs,rfl,h⟩:=r;exact h|u=>trivial|tup vs=>trivial|_=>simp[zI0]at hc
end inv
inductive Pk where|b|i(k:IntKind)|s deriving DecidableEq
def zA5(P:Program)(sh:TypeId->Option (List Pk)):Nat->List Field->Option (List Pk) |_,[]=>some []|off,f::fs=>if f.name≠"_"/\f.offset=off then(sh f.type).bind λks=>if szT P f.type=some ks.length then(zA5 P sh (off+ks.length) fs).map (ks++·)else none else none
def zt3(P:Program):Nat->TypeId->Option (List Pk) |0,_=>none|d+1,t=>match P.underlying t,aggT P t with |some .bool,some false=>some [.b]|some (.int k),some false=>some [.i k]|some .string,some false=>some [.s]|some (.struct fs),some true=>if P.stoodInHeld t=false then zA5 P (zt3 P d) 0 fs.toList else none|_,_=>none
def eqPk:Pk->V->V->Option Bool |.b,.bool x,.bool y=>some (x==y)|.i k,.int k1 x,.int k2 y=>if k1=k/\k2=k then some (x==y)else none|.s,.str x,.str y=>some (x==y)|_,_,_=>none
def eqVs:List Pk->List V->List V->Option Bool |[],[],[]=>some true|k::ks,a::az,b::bs=>(eqPk k a b).bind λr=>(eqVs ks az bs).map (r&&·)|_,_,_=>none
def eqPx:Pk->Value->Value->Option Bool |.b,.bool x,.bool y=>some (x==y)|.i k,.int k1 x,.int k2 y=>if k1=k/\k2=k then some (x==y)else none|.s,.string x,.string y=>some (x==y)|_,_,_=>none
def eqXs:List Pk->List Value->List Value->Option Bool |[],[],[]=>some true|k::ks,a::az,b::bs=>(eqPx k a b).bind λr=>(eqXs ks az bs).map (r&&·)|_,_,_=>none
def eqS(P:Program)(t:TypeId):Option (List Pk):=match P.underlying t with|some (.struct _)=>if P.eqGuardType P.depth t=false then zt3 P 10 t else none|_=>none
section
variable{P:Program}{c:Ctx}{w:World}{L:Nat->Nat}{σ:St}{β:List Value}
variable{t:TypeId}{x:Value}{y:Value}{r:Bool}
theorem xH5{s:Nat}(h:szT P t=some s):∃i,P.info? t=some i/\i.size=s:=by unfold szT at h;simp_all
theorem wT{s:Nat}(h:szT P t=some s)(w:World):(sizeOf t).run P w=.ok s w:=by obtain⟨i,hi,rfl⟩:=xH5 h;simp_all[sizeOf,typeInfo]
theorem zk5{b:Bool}(h:aggT P t=some b)(w:World):(isAgg t).run P w=.ok b w:=by unfold aggT at h;cases hu:P.underlying t with |none=>grind|some d=>simp[hu]at h;subst h;simp only[isAgg,Sem.run_bind,run_underlying hu,Result.andThen_ok,yV2];cases d<;>rfl
theorem yf1:∀(ks:List Pk)(az bs:List Value)(r:Bool),eqXs ks az bs=some r->az.length=ks.length/\bs.length=ks.length
 |[],[],[],_,_=>om|k::ks,a::az,b::bs,r,h=>by unfold eqXs at h;cases h1:eqPx k a b with |none=>rw[h1]at h;cases h|some r1=>rw[h1]at h;simp only[B3,B0]at h;obtain⟨r2,h2,_⟩:=h;have:=yf1 ks az bs r2 h2;simp[this.1,this.2]
 |[],[],_::_,_,h=>by cases h|[],_::_,_,_,h=>by cases h|_::_,[],_,_,h=>by cases h|_::_,_::_,[],_,h=>by cases h
theorem zY6:∀(ks aa:List Pk)(az bs:List Value)(r:Bool),eqXs (ks++aa) az bs=some r->∃r1 r2,eqXs ks (az.take ks.length) (bs.take ks.length)=some r1/\eqXs aa (az.drop ks.length) (bs.drop ks.length)=some r2/\r=(r1&&r2)
 |[],aa,az,bs,r,h=>(by grind[eqXs])|k::ks,aa,a::az,b::bs,r,h=>by rw[Bz]at h;unfold eqXs at h;cases h1:eqPx k a b with |none=>grind|some r0=>rw[h1]at h;simp only[B3,B0]at h;obtain⟨r',h2,rfl⟩:=h;obtain⟨r1,r2,h3,h4,rfl⟩:=zY6 ks aa az bs r' h2;refine⟨r0&&r1,r2,?_,by grind,by grind⟩;grind[eqXs]
 |_::_,_,[],_,_,h=>by cases h|_::_,_,_::_,[],_,h=>by cases h
theorem zV3:∀(ks:List Pk)(vs ws:List V)(xs ys:List Value)(r:Bool),All2 (RdC w L σ β) vs xs->All2 (RdC w L σ β) ws ys->eqVs ks vs ws=some r->eqXs ks xs ys=some r
 |[],[],[],[],[],r,_,_,h=>h|k::ks,v::vs,v2::us,x::xs,y::ys,r,h1,h2,h=>by unfold eqVs at h;cases hk:eqPk k v v2 with |none=>grind|some r0=>
   rw[hk]at h;simp only[B3,B0]at h;obtain⟨r',h3,rfl⟩:=h;have ih:=zV3 ks vs us xs ys r' h1.2 h2.2 h3;have hp:eqPx k x y=some r0:=by
    have hx:=h1.1;have hy:=h2.1;unfold eqPk at hk;split at hk;.cases hx;cases hy;exact hk
    .cases hx;cases hy;exact hk
    .cases hx;cases hy;rename_i a b;rw[<-hk];simp only[eqPx,Option.some.injEq];show(a.toArray==b.toArray)=(a==b);simp
    grind
   grind[eqXs] |[],[],[],[],_::_,_,_,h2,_=>h2.elim|[],[],[],_::_,_,_,h1,_,_=>h1.elim|[],[],_::_,_,_,_,_,_,h=>by cases h|[],_::_,_,_,_,_,_,_,h=>by cases h|_::_,[],_,_,_,_,_,_,h=>by cases h|_::_,_::_,[],_,_,_,_,_,h=>by cases h|_::_,_::_,_::_,[],_,_,h1,_,_=>h1.elim|_::_,_::_,_::_,_::_,[],_,_,h2,_=>h2.elim
def zu8(P:Program)(t:TypeId)(x:Value):Prop:=if aggT P t=some true then∃xs,x=.agg xs else x.oneCell'=true
theorem yv4{ks:List Pk}{b:Bool}(hs:szT P t=some ks.length)(ha:aggT P t=some b)(h1:b=false->ks.length=1)(cs:Array Value)(off:Nat)(hl:off+ks.length<=cs.size)(aa:∀x∈cs.toList,x.oneCell'=true):∃x,(part t cs off).run P w=.ok x w/\zu8 P t x/\x.cells.toList=(cs.toList.drop off).take ks.length:=by cases b with
 |true=>
  refine⟨.agg (cs.extract off (off+ks.length)),?_,?_,?_⟩;.simp_all[part,zk5,wT]
  .unfold zu8;grind
  grind[Value.cells,Array.toList_extract]|false=>have hk:=h1 rfl;have ab:off<cs.size:=om;simp_all[part,zk5,zu8,zA4,A8]
theorem yJ0{d:Nat}{ks:List Pk}(h:zt3 P d t=some ks):∃b,aggT P t=some b/\(b=false->ks.length=1):=by cases d with |zero=>cases h|succ d=>unfold zt3 at h;grind
theorem xZ7(h:eqPx .b x y=some r):∃a b,x=.bool a/\y=.bool b/\r=(a==b):=by
 cases x<;>first|(simp[eqPx]at h;done)|skip
 cases y<;>first|(simp[eqPx]at h;done)|skip
 simp[eqPx]at h;grind
theorem xZ8{k:IntKind}(h:eqPx (.i k) x y=some r):∃a b,x=.int k a/\y=.int k b/\r=(a==b):=by
 cases x<;>first|(simp[eqPx]at h;done)|skip
 cases y<;>first|(simp[eqPx]at h;done)|skip
 simp[eqPx]at h;simp_all
theorem xZ9(h:eqPx .s x y=some r):∃a b,x=.string a/\y=.string b/\r=(a==b):=by
 cases x<;>first|(simp[eqPx]at h;done)|skip
 cases y<;>first|(simp[eqPx]at h;done)|skip
 simp only[eqPx,Option.some.injEq]at h;grind
theorem zJ2:∀(d:Nat)(t:TypeId)(ks:List Pk),zt3 P d t=some ks->∀(D:Nat),d<=D->∀(x y:Value)(r:Bool),zu8 P t x->zu8 P t y->(∀z∈x.cells.toList,z.oneCell'=true)->(∀z∈y.cells.toList,z.oneCell'=true)->eqXs ks x.cells.toList y.cells.toList=some r->∀w,(Op.equalIn D t x y).run P w=.ok r w
 |0,_,_,h=>by cases h|d+1,t,ks,h=>by
  intro D hD x y r hx hy ab ae he w;obtain⟨D,rfl⟩:∃D',D=D'+1:=(by simp;omega);have aa:∀k,ks=[k]->aggT P t=some false->∃r',eqPx k x y=some r'/\r=r':=by intro k hk ha;unfold zu8 at hx hy;rw[if_neg (by rw[ha];simp)]at hx hy;rw[zA4 hx,zA4 hy,hk]at he;simp only[eqXs]at he;simp_all
  unfold zt3 at h;split at h;.rename_i hu ha;simp at h;obtain⟨r',hp,rfl⟩:=aa .b h.symm ha;obtain⟨m,n,rfl,rfl,rfl⟩:=xZ7 hp;simp[Op.equalIn,run_underlying hu]
  .rename_i k hu ha;simp at h;obtain⟨r',hp,rfl⟩:=aa (.i k) h.symm ha;obtain⟨m,n,rfl,rfl,rfl⟩:=xZ8 hp;simp[Op.equalIn,run_underlying hu]
  .rename_i hu ha;simp at h;obtain⟨r',hp,rfl⟩:=aa .s h.symm ha;obtain⟨m,n,rfl,rfl,rfl⟩:=xZ9 hp;simp[Op.equalIn,run_underlying hu]
  .rename_i fs hu ha;split at h
   .rename_i ah;unfold zu8 at hx hy;rw[if_pos ha]at hx hy;obtain⟨xs,rfl⟩:=hx;obtain⟨ys,rfl⟩:=hy;have af:P.fieldsOf t=fs:=by grind[Program.fieldsOf]
    rw[run_equalIn_struct (P:=P) (w:=w) D t xs ys (by rw[af];exact hu) ah,af];simp only[Value.cells]at he ab ae;have key:∀(l:List Field)(off:Nat)(ks:List Pk)(r:Bool),zA5 P (zt3 P d) off l=some ks->eqXs ks (xs.toList.drop off) (ys.toList.drop off)=some r->(Op.eqFields D xs ys l).run P w=.ok r w:=by intro l;induction l with |nil=>intro off ks r hk hr;simp[zA5]at hk;subst hk;have:=yf1 _ _ _ _ hr;have h1:xs.toList.drop off=[]:=(by grind);have h2:ys.toList.drop off=[]:=(by grind);simp_all[eqXs,Op.eqFields]|cons f l ih=>
      intro off ks r hk hr;unfold zA5 at hk;split at hk;.rename_i hf;cases ad:zt3 P d f.type with |none=>grind|some k1=>
        rw[ad]at hk;simp only[B3]at hk;split at hk
        .rename_i ai;simp only[B0]at hk;obtain⟨k2,aj,rfl⟩:=hk;have hlen:=yf1 _ _ _ _ hr;simp only[De,Ak,Cu]at hlen;obtain⟨r1,r2,h1,h2,rfl⟩:=zY6 k1 k2 _ _ _ hr;obtain⟨b,ak,al⟩:=yJ0 ad;have ao:0<k1.length∨k1.length=0:=om;have an:off+k1.length<=xs.size/\off+k1.length<=ys.size∨k1.length=0/\b=true:=by grind
         have parts:∃a b',(part f.type xs off).run P w=.ok a w/\(part f.type ys off).run P w=.ok b' w/\zu8 P f.type a/\zu8 P f.type b'/\a.cells.toList=(xs.toList.drop off).take k1.length/\b'.cells.toList=(ys.toList.drop off).take k1.length:=by
          rcases an with⟨q1,q2⟩|⟨q,rfl⟩;.obtain⟨a,p1,p2,p3⟩:=yv4 (w:=w) ai ak al xs off q1 ab;simp_all[yv4]
          .refine⟨.agg (xs.extract off (off+k1.length)),.agg (ys.extract off (off+k1.length)),?_,?_,?_,?_,?_,?_⟩;.simp_all[part,zk5,wT]
           .simp_all[part,zk5,wT]
           .unfold zu8;grind
           .unfold zu8;grind
           all_goals grind[Value.cells,Array.toList_extract]
         obtain⟨a,b',p1,p2,f1,f2,c1,c2⟩:=parts;have ag:=zJ2 d f.type k1 ad D om a b' r1 f1 f2 (by rw[c1];exactλz hz=>ab z (C6 (Bs hz))) (by rw[c2];exactλz hz=>ae z (C6 (Bs hz))) (by rw[c1,c2];exact h1) w;have aq:=ih (off+k1.length) k2 r2 aj (by simpa[List.drop_drop]using h2);simp only[Op.eqFields,hf.1,ne_eq,not_false_eq_true,if_true,Sem.run_bind,hf.2,p1,p2,ag,Result.andThen_ok];cases r1;all_goals simp_all
        grind
      grind
    grind
   grind
  grind
end
end Go.Vx
